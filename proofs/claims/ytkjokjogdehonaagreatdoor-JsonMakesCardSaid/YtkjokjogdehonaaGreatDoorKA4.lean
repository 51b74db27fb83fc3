/- Part KA4 of a claim's texts, joined: what the claim needs of them. -/
import Derived.Test.YtkjokjogdehonaaGreatDoorKA3
import Derived.Lib.LaidTab
import Derived.Carry
import Derived.OpenShut
import Derived.Deep.Slices
import Derived.Deep.DeepHandedRow
import Derived.Stop.Joined
set_option linter.unusedSimpArgs false
set_option linter.unusedVariables false
namespace Go.Proofs.YtkjokjogdehonaaGreatDoor.Am
open Go Go.RowKit
section
variable (K : FuncId → List AV → Mem → Rs → Mem → Prop)
structure Rg where
  r : ARegion
  Q : AExit → List AV → Mem → Prop
  fr : List AV
def regN (g : Rg) (env : List AV) (h : List Mem) (m' : Mem) : Prop := Stable g.r env g.fr (pushH (!g.r.pairs.isEmpty) m' h) ∧ g.Q .normal (exports env g.fr g.r.exp) m'
def regP (g : Rg) (v : AV) (env : List AV) (h : List Mem) (m' : Mem) : Prop := (g.r.draws = true → env.length ∈ g.r.okPan) ∧ Stable g.r env g.fr h ∧ g.Q (.pan v) g.fr m'
def wo (g : Rg) (fr : List AV) (d : Bool) : List (AOp × Option (Opd × Bool)) → List AV → List Mem → Mem → Prop
  | [], env, h, m => regN g env h m
  | (.call f args, gd) :: os, env, h, m => ∃ b, wants (Opd.ev env fr) gd = some b ∧ (if b = true then
      ∃ r m1, K f (args.map (Opd.ev env fr)) m r m1 ∧ ((∃ v, r = .ret v ∧ wo g fr d os (v :: env) (pushH d m h) m1) ∨ (∃ v, r = .raise v ∧ regP g v env (pushH d m h) m1))
      else wo g fr d os (.tup [] :: env) (pushH d m h) m)
  | (.callV x args, gd) :: os, env, h, m => ∃ b, wants (Opd.ev env fr) gd = some b ∧ (if b = true then
      ∃ f as, callOf (Opd.ev env fr) (.callV x args) = some (f, as) ∧ ∃ r m1, K f as m r m1 ∧ ((∃ v, r = .ret v ∧ wo g fr d os (v :: env) (pushH d m h) m1) ∨ (∃ v, r = .raise v ∧ regP g v env (pushH d m h) m1))
      else wo g fr d os (.tup [] :: env) (pushH d m h) m)
  | (.panic x, gd) :: os, env, h, m => ∃ b, wants (Opd.ev env fr) gd = some b ∧ (if b = true then
      ∃ t v, Opd.ev env fr x = .iface t v ∧ regP g (.iface t v) env (pushH d m h) m
      else wo g fr d os (.tup [] :: env) (pushH d m h) m)
  | (o, gd) :: os, env, h, m => ∃ b, wants (Opd.ev env fr) gd = some b ∧ (if b = true then
      ∃ v m1, evalP (Opd.ev env fr) m o = some (v, m1) ∧ wo g fr d os (v :: env) (pushH d m h) m1
      else wo g fr d os (.tup [] :: env) (pushH d m h) m)
def wl (ks : List Nat) (a : ACode) (Q : AExit → List AV → Mem → Prop) (fr : List AV) (m : Mem) : Prop :=
  ∃ e fr' m', Big K (.code (.loop ks a) fr) m (.exit e fr') m' ∧ Q e fr' m'
def wc : ACode → (AExit → List AV → Mem → Prop) → List AV → Mem → Prop
  | .skip, Q, fr, m => Q .normal fr m
  | .exit id, Q, fr, m => Q (.exit id) fr m
  | .ret, Q, fr, m => Q .ret fr m
  | .stuck, _, _, _ => False
  | .seq a b, Q, fr, m => wc a (fun e fr' m' => match e with | .normal => wc b Q fr' m' | .exit id => Q (.exit id) fr' m' | .ret => Q .ret fr' m' | .pan v => Q (.pan v) fr' m') fr m
  | .cond c a b, Q, fr, m => ∃ t, c.ev [] fr = .bool t ∧ (if t = true then wc a Q fr m else wc b Q fr m)
  | .block id a, Q, fr, m => wc a (fun e fr' m' => match e with | .exit id' => if id' = id then Q .normal fr' m' else Q (.exit id') fr' m' | .normal => Q .normal fr' m' | .ret => Q .ret fr' m' | .pan v => Q (.pan v) fr' m') fr m
  | .loop ks a, Q, fr, m => wl K ks a Q fr m
  | .region r, Q, fr, m => wo K ⟨r, Q, fr⟩ fr (!r.pairs.isEmpty) r.ops [] [] m
def seqQ (b : ACode) (Q : AExit → List AV → Mem → Prop) : AExit → List AV → Mem → Prop
  | .normal, fr, m => wc K b Q fr m
  | .exit id, fr, m => Q (.exit id) fr m
  | .ret, fr, m => Q .ret fr m
  | .pan v, fr, m => Q (.pan v) fr m
def loopQ (ks : List Nat) (a : ACode) (Q : AExit → List AV → Mem → Prop) : AExit → List AV → Mem → Prop
  | .normal, fr, m => wl K ks a Q (kills ks fr) m
  | .exit id, fr, m => Q (.exit id) fr m
  | .ret, fr, m => Q .ret fr m
  | .pan v, fr, m => Q (.pan v) fr m
def blockQ (id : Nat) (Q : AExit → List AV → Mem → Prop) : AExit → List AV → Mem → Prop
  | .normal, fr, m => Q .normal fr m
  | .exit id', fr, m => if id' = id then Q .normal fr m else Q (.exit id') fr m
  | .ret, fr, m => Q .ret fr m
  | .pan v, fr, m => Q (.pan v) fr m
def bindW (x : Option (AV × Mem)) (g : Rg) (fr : List AV) (d : Bool) (os : List (AOp × Option (Opd × Bool))) (env : List AV) (h : List Mem) : Prop := ∃ v m1, x = some (v, m1) ∧ wo K g fr d os (v :: env) h m1
def wantW (x : Option Bool) (o : AOp) (g : Rg) (fr : List AV) (d : Bool) (os : List (AOp × Option (Opd × Bool))) (env : List AV) (h : List Mem) (m : Mem) : Prop :=
  ∃ b, x = some b ∧ (if b = true then wo K g fr d ((o, none) :: os) env h m else wo K g fr d os (.tup [] :: env) (pushH d m h) m)
def callW (f : FuncId) (args : List AV) (g : Rg) (fr : List AV) (d : Bool) (os : List (AOp × Option (Opd × Bool))) (env : List AV) (h : List Mem) (m : Mem) : Prop :=
  ∃ r m1, K f args m r m1 ∧ ((∃ v, r = .ret v ∧ wo K g fr d os (v :: env) (pushH d m h) m1) ∨ (∃ v, r = .raise v ∧ regP g v env (pushH d m h) m1))
def callVW (x : Option (FuncId × List AV)) (g : Rg) (fr : List AV) (d : Bool) (os : List (AOp × Option (Opd × Bool))) (env : List AV) (h : List Mem) (m : Mem) : Prop :=
  ∃ f args, x = some (f, args) ∧ callW K f args g fr d os env h m
def panW (x : AV) (g : Rg) (env : List AV) (h : List Mem) (m : Mem) : Prop := ∃ t v, x = .iface t v ∧ regP g (.iface t v) env h m
def boolW (x : AV) (a b : ACode) (Q : AExit → List AV → Mem → Prop) (fr : List AV) (m : Mem) : Prop := ∃ t, x = .bool t ∧ (if t = true then wc K a Q fr m else wc K b Q fr m)
end
section
variable {K : FuncId → List AV → Mem → Rs → Mem → Prop}
theorem wo_sound {fr : List AV} {d : Bool} {q : Rg} : ∀ {os : List (AOp × Option (Opd × Bool))} {env : List AV} {h : List Mem} {m : Mem}, wo K q fr d os env h m →
    (∃ env' h' m', Big K (.ops os env fr d h) m (.env env' h') m' ∧ regN q env' h' m') ∨ (∃ v env' h' m', Big K (.ops os env fr d h) m (.pan v env' h') m' ∧ regP q v env' h' m') := by
  intro os
  induction os with
  | nil => intro env h m hw; exact .inl ⟨env, h, m, .opsNil, hw⟩
  | cons og os ih =>
    intro env h m hw
    obtain ⟨o, g⟩ := og
    have skip : wants (Opd.ev env fr) g = some false → wo K q fr d os (.tup [] :: env) (pushH d m h) m → (∃ env' h' m', Big K (.ops ((o, g) :: os) env fr d h) m (.env env' h') m' ∧ regN q env' h' m') ∨ (∃ v env' h' m', Big K (.ops ((o, g) :: os) env fr d h) m (.pan v env' h') m' ∧ regP q v env' h' m') := by
      intro h1 h2
      rcases ih h2 with ⟨e, h', m', k1, k2⟩ | ⟨v, e, h', m', k1, k2⟩
      · exact .inl ⟨e, h', m', .opsSkip h1 k1, k2⟩
      · exact .inr ⟨v, e, h', m', .opsSkip h1 k1, k2⟩
    have callc : ∀ {f args}, wants (Opd.ev env fr) g = some true → callOf (Opd.ev env fr) o = some (f, args) → (∃ r m1, K f args m r m1 ∧ ((∃ v, r = .ret v ∧ wo K q fr d os (v :: env) (pushH d m h) m1) ∨ (∃ v, r = .raise v ∧ regP q v env (pushH d m h) m1))) →
        (∃ env' h' m', Big K (.ops ((o, g) :: os) env fr d h) m (.env env' h') m' ∧ regN q env' h' m') ∨ (∃ v env' h' m', Big K (.ops ((o, g) :: os) env fr d h) m (.pan v env' h') m' ∧ regP q v env' h' m') := by
      intro f args h1 h2 ⟨r, m1, h3, h4⟩
      rcases h4 with ⟨v, rfl, h4⟩ | ⟨v, rfl, h4⟩
      · rcases ih h4 with ⟨e, h', m', k1, k2⟩ | ⟨v, e, h', m', k1, k2⟩
        · exact .inl ⟨e, h', m', .opsC h1 h2 h3 k1, k2⟩
        · exact .inr ⟨v, e, h', m', .opsC h1 h2 h3 k1, k2⟩
      · exact .inr ⟨v, env, _, m1, .opsCP h1 h2 h3, h4⟩
    have evalc : wants (Opd.ev env fr) g = some true → (∃ v m1, evalP (Opd.ev env fr) m o = some (v, m1) ∧ wo K q fr d os (v :: env) (pushH d m h) m1) →
        (∃ env' h' m', Big K (.ops ((o, g) :: os) env fr d h) m (.env env' h') m' ∧ regN q env' h' m') ∨ (∃ v env' h' m', Big K (.ops ((o, g) :: os) env fr d h) m (.pan v env' h') m' ∧ regP q v env' h' m') := by
      intro h1 ⟨v, m1, h2, h3⟩
      rcases ih h3 with ⟨e, h', m', k1, k2⟩ | ⟨v, e, h', m', k1, k2⟩
      · exact .inl ⟨e, h', m', .opsP h1 h2 k1, k2⟩
      · exact .inr ⟨v, e, h', m', .opsP h1 h2 k1, k2⟩
    cases o with
    | call f args =>
      simp only [wo] at hw
      obtain ⟨b, h1, h2⟩ := hw
      cases b
      · exact skip h1 (by simpa using h2)
      · simp only [if_true] at h2; exact callc h1 rfl h2
    | callV f args =>
      simp only [wo] at hw
      obtain ⟨b, h1, h2⟩ := hw
      cases b
      · exact skip h1 (by simpa using h2)
      · simp only [if_true] at h2
        obtain ⟨f', as, h2, h3⟩ := h2
        exact callc h1 h2 h3
    | panic x =>
      simp only [wo] at hw
      obtain ⟨b, h1, h2⟩ := hw
      cases b
      · exact skip h1 (by simpa using h2)
      · simp only [if_true] at h2
        obtain ⟨t, v, h2, h3⟩ := h2
        exact .inr ⟨_, env, _, m, .opsPan h1 h2, h3⟩
    | _ =>
      simp only [wo] at hw
      obtain ⟨b, h1, h2⟩ := hw
      cases b
      · exact skip h1 (by simpa using h2)
      · simp only [if_true] at h2
        exact evalc h1 h2
theorem wc_sound : ∀ {c : ACode} {Q : AExit → List AV → Mem → Prop} {fr : List AV} {m : Mem}, wc K c Q fr m → ∃ e fr' m', Big K (.code c fr) m (.exit e fr') m' ∧ Q e fr' m'
  | .skip, Q, fr, m, h => ⟨_, _, _, .skip, h⟩
  | .exit id, Q, fr, m, h => ⟨_, _, _, .exit, h⟩
  | .ret, Q, fr, m, h => ⟨_, _, _, .ret, h⟩
  | .stuck, Q, fr, m, h => h.elim
  | .seq a b, Q, fr, m, h => by
    simp only [wc] at h
    obtain ⟨e, fr', m', k1, k2⟩ := wc_sound (c := a) h
    cases e with
    | normal =>
      obtain ⟨e2, fr2, m2, l1, l2⟩ := wc_sound (c := b) k2
      exact ⟨e2, fr2, m2, .seqN k1 l1, l2⟩
    | exit id => exact ⟨_, _, _, .seqX k1 (by simp), k2⟩
    | ret => exact ⟨_, _, _, .seqX k1 (by simp), k2⟩
    | pan v => exact ⟨_, _, _, .seqX k1 (by simp), k2⟩
  | .cond c a b, Q, fr, m, h => by
    simp only [wc] at h
    obtain ⟨t, h1, h2⟩ := h
    cases t
    · obtain ⟨e, fr', m', k1, k2⟩ := wc_sound (c := b) (by simpa using h2)
      exact ⟨e, fr', m', .cond h1 (by simpa using k1), k2⟩
    · obtain ⟨e, fr', m', k1, k2⟩ := wc_sound (c := a) (by simpa using h2)
      exact ⟨e, fr', m', .cond h1 (by simpa using k1), k2⟩
  | .block id a, Q, fr, m, h => by
    simp only [wc] at h
    obtain ⟨e, fr', m', k1, k2⟩ := wc_sound (c := a) h
    cases e with
    | normal => exact ⟨_, _, _, .blockX k1 (by simp), k2⟩
    | ret => exact ⟨_, _, _, .blockX k1 (by simp), k2⟩
    | pan v => exact ⟨_, _, _, .blockX k1 (by simp), k2⟩
    | exit id' =>
      simp only at k2
      split at k2
      · rename_i e; subst e; exact ⟨_, _, _, .blockN k1, k2⟩
      · rename_i hne; exact ⟨_, _, _, .blockX k1 (fun h => hne (by injection h)), k2⟩
  | .loop ks a, Q, fr, m, h => h
  | .region r, Q, fr, m, h => by
    simp only [wc] at h
    rcases wo_sound h with ⟨env, h', m', k1, k2, k3⟩ | ⟨v, env, h', m', k1, k2, k3, k4⟩
    · exact ⟨_, _, _, .region k1 k2, k3⟩
    · exact ⟨_, _, _, .regionP k1 k2 k3, k4⟩
theorem wl_step {ks : List Nat} {a : ACode} {Q : AExit → List AV → Mem → Prop} {fr : List AV} {m : Mem} (h : wc K a (loopQ K ks a Q) fr m) : wl K ks a Q fr m := by
  obtain ⟨e, fr', m', k1, k2⟩ := wc_sound h
  cases e with
  | normal =>
    obtain ⟨e2, fr2, m2, l1, l2⟩ := k2
    exact ⟨e2, fr2, m2, .loopN k1 l1, l2⟩
  | exit id => exact ⟨_, _, _, .loopX k1 (by simp), k2⟩
  | ret => exact ⟨_, _, _, .loopX k1 (by simp), k2⟩
  | pan v => exact ⟨_, _, _, .loopX k1 (by simp), k2⟩
theorem wc_skip {Q : AExit → List AV → Mem → Prop} {fr : List AV} {m : Mem} : wc K .skip Q fr m = Q .normal fr m := rfl
theorem wc_exit {id : Nat} {Q : AExit → List AV → Mem → Prop} {fr : List AV} {m : Mem} : wc K (.exit id) Q fr m = Q (.exit id) fr m := rfl
theorem wc_ret {Q : AExit → List AV → Mem → Prop} {fr : List AV} {m : Mem} : wc K .ret Q fr m = Q .ret fr m := rfl
theorem wc_seq {a b : ACode} {Q : AExit → List AV → Mem → Prop} {fr : List AV} {m : Mem} : wc K (.seq a b) Q fr m = wc K a (seqQ K b Q) fr m := by
  have : (fun e fr' m' => match e with | .normal => wc K b Q fr' m' | .exit id => Q (.exit id) fr' m' | .ret => Q .ret fr' m' | .pan v => Q (.pan v) fr' m') = seqQ K b Q := by
    funext e fr m; cases e <;> rfl
  simp only [wc]; rw [this]
theorem wc_block {id : Nat} {a : ACode} {Q : AExit → List AV → Mem → Prop} {fr : List AV} {m : Mem} : wc K (.block id a) Q fr m = wc K a (blockQ id Q) fr m := by
  have : (fun e fr' m' => match e with | .exit id' => if id' = id then Q .normal fr' m' else Q (.exit id') fr' m' | .normal => Q .normal fr' m' | .ret => Q .ret fr' m' | .pan v => Q (.pan v) fr' m') = blockQ id Q := by
    funext e fr m; cases e <;> rfl
  simp only [wc]; rw [this]
theorem wc_cond {c : Opd} {a b : ACode} {Q : AExit → List AV → Mem → Prop} {fr : List AV} {m : Mem} : wc K (.cond c a b) Q fr m = boolW K (c.ev [] fr) a b Q fr m := rfl
theorem wc_loop {ks : List Nat} {a : ACode} {Q : AExit → List AV → Mem → Prop} {fr : List AV} {m : Mem} : wc K (.loop ks a) Q fr m = wl K ks a Q fr m := rfl
theorem wc_region {r : ARegion} {Q : AExit → List AV → Mem → Prop} {fr : List AV} {m : Mem} : wc K (.region r) Q fr m = wo K ⟨r, Q, fr⟩ fr (!r.pairs.isEmpty) r.ops [] [] m := rfl
theorem wo_nil {g : Rg} {fr env : List AV} {d : Bool} {h : List Mem} {m : Mem} : wo K g fr d [] env h m = regN g env h m := rfl
theorem seqQ_n {b : ACode} {Q : AExit → List AV → Mem → Prop} {fr : List AV} {m : Mem} : seqQ K b Q .normal fr m = wc K b Q fr m := rfl
theorem seqQ_x {b : ACode} {Q : AExit → List AV → Mem → Prop} {fr : List AV} {m : Mem} {id : Nat} : seqQ K b Q (.exit id) fr m = Q (.exit id) fr m := rfl
theorem seqQ_r {b : ACode} {Q : AExit → List AV → Mem → Prop} {fr : List AV} {m : Mem} : seqQ K b Q .ret fr m = Q .ret fr m := rfl
theorem seqQ_p {b : ACode} {Q : AExit → List AV → Mem → Prop} {fr : List AV} {m : Mem} {v : AV} : seqQ K b Q (.pan v) fr m = Q (.pan v) fr m := rfl
theorem loopQ_n {ks : List Nat} {b : ACode} {Q : AExit → List AV → Mem → Prop} {fr : List AV} {m : Mem} : loopQ K ks b Q .normal fr m = wl K ks b Q (kills ks fr) m := rfl
theorem loopQ_x {ks : List Nat} {b : ACode} {Q : AExit → List AV → Mem → Prop} {fr : List AV} {m : Mem} {id : Nat} : loopQ K ks b Q (.exit id) fr m = Q (.exit id) fr m := rfl
theorem loopQ_r {ks : List Nat} {b : ACode} {Q : AExit → List AV → Mem → Prop} {fr : List AV} {m : Mem} : loopQ K ks b Q .ret fr m = Q .ret fr m := rfl
theorem loopQ_p {ks : List Nat} {b : ACode} {Q : AExit → List AV → Mem → Prop} {fr : List AV} {m : Mem} {v : AV} : loopQ K ks b Q (.pan v) fr m = Q (.pan v) fr m := rfl
theorem blockQ_n {id : Nat} {Q : AExit → List AV → Mem → Prop} {fr : List AV} {m : Mem} : blockQ id Q .normal fr m = Q .normal fr m := rfl
theorem blockQ_x {id id' : Nat} {Q : AExit → List AV → Mem → Prop} {fr : List AV} {m : Mem} : blockQ id Q (.exit id') fr m = Q (if id' = id then .normal else .exit id') fr m := by
  simp only [blockQ]; split <;> rfl
theorem blockQ_r {id : Nat} {Q : AExit → List AV → Mem → Prop} {fr : List AV} {m : Mem} : blockQ id Q .ret fr m = Q .ret fr m := rfl
theorem blockQ_p {id : Nat} {Q : AExit → List AV → Mem → Prop} {fr : List AV} {m : Mem} {v : AV} : blockQ id Q (.pan v) fr m = Q (.pan v) fr m := rfl
theorem bindW_some {v : AV} {m : Mem} {g : Rg} {fr : List AV} {d : Bool} {os : List (AOp × Option (Opd × Bool))} {env : List AV} {h : List Mem} : bindW K (some (v, m)) g fr d os env h = wo K g fr d os (v :: env) h m :=
  propext ⟨fun ⟨_, _, h, k⟩ => by injection h with h; injection h with h1 h2; subst h1; subst h2; exact k, fun h => ⟨_, _, rfl, h⟩⟩
theorem wantW_true {o : AOp} {g : Rg} {fr : List AV} {d : Bool} {os : List (AOp × Option (Opd × Bool))} {env : List AV} {h : List Mem} {m : Mem} : wantW K (some true) o g fr d os env h m = wo K g fr d ((o, none) :: os) env h m := by simp [wantW]
theorem wantW_false {o : AOp} {g : Rg} {fr : List AV} {d : Bool} {os : List (AOp × Option (Opd × Bool))} {env : List AV} {h : List Mem} {m : Mem} : wantW K (some false) o g fr d os env h m = wo K g fr d os (.tup [] :: env) (pushH d m h) m := by simp [wantW]
theorem boolW_true {a b : ACode} {Q : AExit → List AV → Mem → Prop} {fr : List AV} {m : Mem} : boolW K (.bool true) a b Q fr m = wc K a Q fr m := by simp [boolW]
theorem boolW_false {a b : ACode} {Q : AExit → List AV → Mem → Prop} {fr : List AV} {m : Mem} : boolW K (.bool false) a b Q fr m = wc K b Q fr m := by simp [boolW]
theorem boolW_intro {t : Bool} {a b : ACode} {Q : AExit → List AV → Mem → Prop} {fr : List AV} {m : Mem} (h1 : t = true → wc K a Q fr m) (h2 : t = false → wc K b Q fr m) : boolW K (.bool t) a b Q fr m := by
  cases t
  · rw [boolW_false]; exact h2 rfl
  · rw [boolW_true]; exact h1 rfl
theorem panW_iface {t : TypeId} {v : AV} {g : Rg} {env : List AV} {h : List Mem} {m : Mem} : panW (.iface t v) g env h m = regP g (.iface t v) env h m :=
  propext ⟨fun ⟨_, _, h, k⟩ => by injection h with h1 h2; subst h1; subst h2; exact k, fun h => ⟨_, _, rfl, h⟩⟩
theorem callVW_some {f : FuncId} {args : List AV} {g : Rg} {fr : List AV} {d : Bool} {os : List (AOp × Option (Opd × Bool))} {env : List AV} {h : List Mem} {m : Mem} : callVW K (some (f, args)) g fr d os env h m = callW K f args g fr d os env h m :=
  propext ⟨fun ⟨_, _, h, k⟩ => by injection h with h; injection h with h1 h2; subst h1; subst h2; exact k, fun h => ⟨_, _, rfl, h⟩⟩
theorem callW_ret {f : FuncId} {args : List AV} {g : Rg} {fr : List AV} {d : Bool} {os : List (AOp × Option (Opd × Bool))} {env : List AV} {h : List Mem} {m m1 : Mem} {v : AV} (hc : K f args m (.ret v) m1) (hk : wo K g fr d os (v :: env) (pushH d m h) m1) : callW K f args g fr d os env h m := ⟨_, _, hc, .inl ⟨_, rfl, hk⟩⟩
theorem wo_call {f : FuncId} {args : List Opd} {g : Rg} {fr : List AV} {d : Bool} {os : List (AOp × Option (Opd × Bool))} {env : List AV} {h : List Mem} {m : Mem} : wo K g fr d ((.call f args, none) :: os) env h m = callW K f (args.map (Opd.ev env fr)) g fr d os env h m := by
  simp [wo, wants, callW]
theorem wo_callV {x : Opd} {args : List Opd} {g : Rg} {fr : List AV} {d : Bool} {os : List (AOp × Option (Opd × Bool))} {env : List AV} {h : List Mem} {m : Mem} : wo K g fr d ((.callV x args, none) :: os) env h m = callVW K (callOf (Opd.ev env fr) (.callV x args)) g fr d os env h m := by
  simp [wo, wants, callW, callVW]
theorem wo_pan {x : Opd} {g : Rg} {fr : List AV} {d : Bool} {os : List (AOp × Option (Opd × Bool))} {env : List AV} {h : List Mem} {m : Mem} : wo K g fr d ((.panic x, none) :: os) env h m = panW (Opd.ev env fr x) g env (pushH d m h) m := by
  simp [wo, wants, panW]
theorem wo_guard {o : AOp} {gd : Opd × Bool} {g : Rg} {fr : List AV} {d : Bool} {os : List (AOp × Option (Opd × Bool))} {env : List AV} {h : List Mem} {m : Mem} : wo K g fr d ((o, some gd) :: os) env h m = wantW K (wants (Opd.ev env fr) (some gd)) o g fr d os env h m := by
  cases o <;> simp [wo, wants, wantW]
theorem wo_move {x : Opd} {g : Rg} {fr : List AV} {d : Bool} {os : List (AOp × Option (Opd × Bool))} {env : List AV} {h : List Mem} {m' : Mem} : wo K g fr d (((AOp.move x), none) :: os) env h m' = bindW K (evalP (Opd.ev env fr) m' (AOp.move x)) g fr d os env (pushH d m' h) := by simp [wo, wants, bindW]
theorem wo_pick {c a b : Opd} {g : Rg} {fr : List AV} {d : Bool} {os : List (AOp × Option (Opd × Bool))} {env : List AV} {h : List Mem} {m' : Mem} : wo K g fr d (((AOp.pick c a b), none) :: os) env h m' = bindW K (evalP (Opd.ev env fr) m' (AOp.pick c a b)) g fr d os env (pushH d m' h) := by simp [wo, wants, bindW]
theorem wo_alloc {t : TypeId} {z : List AV} {g : Rg} {fr : List AV} {d : Bool} {os : List (AOp × Option (Opd × Bool))} {env : List AV} {h : List Mem} {m' : Mem} : wo K g fr d (((AOp.alloc t z), none) :: os) env h m' = bindW K (evalP (Opd.ev env fr) m' (AOp.alloc t z)) g fr d os env (pushH d m' h) := by simp [wo, wants, bindW]
theorem wo_box {t : TypeId} {x : Opd} {g : Rg} {fr : List AV} {d : Bool} {os : List (AOp × Option (Opd × Bool))} {env : List AV} {h : List Mem} {m' : Mem} : wo K g fr d (((AOp.box t x), none) :: os) env h m' = bindW K (evalP (Opd.ev env fr) m' (AOp.box t x)) g fr d os env (pushH d m' h) := by simp [wo, wants, bindW]
theorem wo_build {z : List AV} {ps : List (Nat × Nat × Opd)} {g : Rg} {fr : List AV} {d : Bool} {os : List (AOp × Option (Opd × Bool))} {env : List AV} {h : List Mem} {m' : Mem} : wo K g fr d (((AOp.build z ps), none) :: os) env h m' = bindW K (evalP (Opd.ev env fr) m' (AOp.build z ps)) g fr d os env (pushH d m' h) := by simp [wo, wants, bindW]
theorem wo_buildSlT {e : TypeId} {sz : Nat} {z : AV} {n : Nat} {ps : List (Nat × Opd)} {g : Rg} {fr : List AV} {d : Bool} {os : List (AOp × Option (Opd × Bool))} {env : List AV} {h : List Mem} {m' : Mem} : wo K g fr d (((AOp.buildSlT e sz z n ps), none) :: os) env h m' = bindW K (evalP (Opd.ev env fr) m' (AOp.buildSlT e sz z n ps)) g fr d os env (pushH d m' h) := by simp [wo, wants, bindW]
theorem wo_convB {x : Opd} {g : Rg} {fr : List AV} {d : Bool} {os : List (AOp × Option (Opd × Bool))} {env : List AV} {h : List Mem} {m' : Mem} : wo K g fr d (((AOp.convB x), none) :: os) env h m' = bindW K (evalP (Opd.ev env fr) m' (AOp.convB x)) g fr d os env (pushH d m' h) := by simp [wo, wants, bindW]
theorem wo_buildSl {sz : Nat} {z : AV} {n : Nat} {ps : List (Nat × Opd)} {g : Rg} {fr : List AV} {d : Bool} {os : List (AOp × Option (Opd × Bool))} {env : List AV} {h : List Mem} {m' : Mem} : wo K g fr d (((AOp.buildSl sz z n ps), none) :: os) env h m' = bindW K (evalP (Opd.ev env fr) m' (AOp.buildSl sz z n ps)) g fr d os env (pushH d m' h) := by simp [wo, wants, bindW]
theorem wo_load {isAgg : Bool} {n : Nat} {a : Opd} {g : Rg} {fr : List AV} {d : Bool} {os : List (AOp × Option (Opd × Bool))} {env : List AV} {h : List Mem} {m' : Mem} : wo K g fr d (((AOp.load isAgg n a), none) :: os) env h m' = bindW K (evalP (Opd.ev env fr) m' (AOp.load isAgg n a)) g fr d os env (pushH d m' h) := by simp [wo, wants, bindW]
theorem wo_store {n : Nat} {a x : Opd} {g : Rg} {fr : List AV} {d : Bool} {os : List (AOp × Option (Opd × Bool))} {env : List AV} {h : List Mem} {m' : Mem} : wo K g fr d (((AOp.store n a x), none) :: os) env h m' = bindW K (evalP (Opd.ev env fr) m' (AOp.store n a x)) g fr d os env (pushH d m' h) := by simp [wo, wants, bindW]
theorem wo_nilck {x : Opd} {g : Rg} {fr : List AV} {d : Bool} {os : List (AOp × Option (Opd × Bool))} {env : List AV} {h : List Mem} {m' : Mem} : wo K g fr d (((AOp.nilck x), none) :: os) env h m' = bindW K (evalP (Opd.ev env fr) m' (AOp.nilck x)) g fr d os env (pushH d m' h) := by simp [wo, wants, bindW]
theorem wo_bin {op : BinOp} {x y : Opd} {g : Rg} {fr : List AV} {d : Bool} {os : List (AOp × Option (Opd × Bool))} {env : List AV} {h : List Mem} {m' : Mem} : wo K g fr d (((AOp.bin op x y), none) :: os) env h m' = bindW K (evalP (Opd.ev env fr) m' (AOp.bin op x y)) g fr d os env (pushH d m' h) := by simp [wo, wants, bindW]
theorem wo_eq {neg : Bool} {t : EqT} {x y : Opd} {g : Rg} {fr : List AV} {d : Bool} {os : List (AOp × Option (Opd × Bool))} {env : List AV} {h : List Mem} {m' : Mem} : wo K g fr d (((AOp.eq neg t x y), none) :: os) env h m' = bindW K (evalP (Opd.ev env fr) m' (AOp.eq neg t x y)) g fr d os env (pushH d m' h) := by simp [wo, wants, bindW]
theorem wo_not {x : Opd} {g : Rg} {fr : List AV} {d : Bool} {os : List (AOp × Option (Opd × Bool))} {env : List AV} {h : List Mem} {m' : Mem} : wo K g fr d (((AOp.not x), none) :: os) env h m' = bindW K (evalP (Opd.ev env fr) m' (AOp.not x)) g fr d os env (pushH d m' h) := by simp [wo, wants, bindW]
theorem wo_neg {x : Opd} {g : Rg} {fr : List AV} {d : Bool} {os : List (AOp × Option (Opd × Bool))} {env : List AV} {h : List Mem} {m' : Mem} : wo K g fr d (((AOp.neg x), none) :: os) env h m' = bindW K (evalP (Opd.ev env fr) m' (AOp.neg x)) g fr d os env (pushH d m' h) := by simp [wo, wants, bindW]
theorem wo_inv {x : Opd} {g : Rg} {fr : List AV} {d : Bool} {os : List (AOp × Option (Opd × Bool))} {env : List AV} {h : List Mem} {m' : Mem} : wo K g fr d (((AOp.inv x), none) :: os) env h m' = bindW K (evalP (Opd.ev env fr) m' (AOp.inv x)) g fr d os env (pushH d m' h) := by simp [wo, wants, bindW]
theorem wo_convI {k : IntKind} {x : Opd} {g : Rg} {fr : List AV} {d : Bool} {os : List (AOp × Option (Opd × Bool))} {env : List AV} {h : List Mem} {m' : Mem} : wo K g fr d (((AOp.convI k x), none) :: os) env h m' = bindW K (evalP (Opd.ev env fr) m' (AOp.convI k x)) g fr d os env (pushH d m' h) := by simp [wo, wants, bindW]
theorem wo_bytesOf {e : TypeId} {x : Opd} {g : Rg} {fr : List AV} {d : Bool} {os : List (AOp × Option (Opd × Bool))} {env : List AV} {h : List Mem} {m' : Mem} : wo K g fr d (((AOp.bytesOf e x), none) :: os) env h m' = bindW K (evalP (Opd.ev env fr) m' (AOp.bytesOf e x)) g fr d os env (pushH d m' h) := by simp [wo, wants, bindW]
theorem wo_strOf {x : Opd} {g : Rg} {fr : List AV} {d : Bool} {os : List (AOp × Option (Opd × Bool))} {env : List AV} {h : List Mem} {m' : Mem} : wo K g fr d (((AOp.strOf x), none) :: os) env h m' = bindW K (evalP (Opd.ev env fr) m' (AOp.strOf x)) g fr d os env (pushH d m' h) := by simp [wo, wants, bindW]
theorem wo_runeStr {x : Opd} {g : Rg} {fr : List AV} {d : Bool} {os : List (AOp × Option (Opd × Bool))} {env : List AV} {h : List Mem} {m' : Mem} : wo K g fr d (((AOp.runeStr x), none) :: os) env h m' = bindW K (evalP (Opd.ev env fr) m' (AOp.runeStr x)) g fr d os env (pushH d m' h) := by simp [wo, wants, bindW]
theorem wo_mkIface {t : TypeId} {x : Opd} {g : Rg} {fr : List AV} {d : Bool} {os : List (AOp × Option (Opd × Bool))} {env : List AV} {h : List Mem} {m' : Mem} : wo K g fr d (((AOp.mkIface t x), none) :: os) env h m' = bindW K (evalP (Opd.ev env fr) m' (AOp.mkIface t x)) g fr d os env (pushH d m' h) := by simp [wo, wants, bindW]
theorem wo_mkFn {f : Fn} {first cap : List Opd} {g : Rg} {fr : List AV} {d : Bool} {os : List (AOp × Option (Opd × Bool))} {env : List AV} {h : List Mem} {m' : Mem} : wo K g fr d (((AOp.mkFn f first cap), none) :: os) env h m' = bindW K (evalP (Opd.ev env fr) m' (AOp.mkFn f first cap)) g fr d os env (pushH d m' h) := by simp [wo, wants, bindW]
theorem wo_mkMap  {g : Rg} {fr : List AV} {d : Bool} {os : List (AOp × Option (Opd × Bool))} {env : List AV} {h : List Mem} {m' : Mem} : wo K g fr d (((AOp.mkMap), none) :: os) env h m' = bindW K (evalP (Opd.ev env fr) m' (AOp.mkMap)) g fr d os env (pushH d m' h) := by simp [wo, wants, bindW]
theorem wo_sliceS {x : Opd} {lo hi : Option Opd} {g : Rg} {fr : List AV} {d : Bool} {os : List (AOp × Option (Opd × Bool))} {env : List AV} {h : List Mem} {m' : Mem} : wo K g fr d (((AOp.sliceS x lo hi), none) :: os) env h m' = bindW K (evalP (Opd.ev env fr) m' (AOp.sliceS x lo hi)) g fr d os env (pushH d m' h) := by simp [wo, wants, bindW]
theorem wo_sliceL {sz : Nat} {x : Opd} {lo hi mx : Option Opd} {g : Rg} {fr : List AV} {d : Bool} {os : List (AOp × Option (Opd × Bool))} {env : List AV} {h : List Mem} {m' : Mem} : wo K g fr d (((AOp.sliceL sz x lo hi mx), none) :: os) env h m' = bindW K (evalP (Opd.ev env fr) m' (AOp.sliceL sz x lo hi mx)) g fr d os env (pushH d m' h) := by simp [wo, wants, bindW]
theorem wo_fieldAddr {off : Nat} {x : Opd} {g : Rg} {fr : List AV} {d : Bool} {os : List (AOp × Option (Opd × Bool))} {env : List AV} {h : List Mem} {m' : Mem} : wo K g fr d (((AOp.fieldAddr off x), none) :: os) env h m' = bindW K (evalP (Opd.ev env fr) m' (AOp.fieldAddr off x)) g fr d os env (pushH d m' h) := by simp [wo, wants, bindW]
theorem wo_field {isAgg : Bool} {n off : Nat} {x : Opd} {g : Rg} {fr : List AV} {d : Bool} {os : List (AOp × Option (Opd × Bool))} {env : List AV} {h : List Mem} {m' : Mem} : wo K g fr d (((AOp.field isAgg n off x), none) :: os) env h m' = bindW K (evalP (Opd.ev env fr) m' (AOp.field isAgg n off x)) g fr d os env (pushH d m' h) := by simp [wo, wants, bindW]
theorem wo_idxAddr {sz : Nat} {x i : Opd} {g : Rg} {fr : List AV} {d : Bool} {os : List (AOp × Option (Opd × Bool))} {env : List AV} {h : List Mem} {m' : Mem} : wo K g fr d (((AOp.idxAddr sz x i), none) :: os) env h m' = bindW K (evalP (Opd.ev env fr) m' (AOp.idxAddr sz x i)) g fr d os env (pushH d m' h) := by simp [wo, wants, bindW]
theorem wo_idxAddrA {len sz : Nat} {x i : Opd} {g : Rg} {fr : List AV} {d : Bool} {os : List (AOp × Option (Opd × Bool))} {env : List AV} {h : List Mem} {m' : Mem} : wo K g fr d (((AOp.idxAddrA len sz x i), none) :: os) env h m' = bindW K (evalP (Opd.ev env fr) m' (AOp.idxAddrA len sz x i)) g fr d os env (pushH d m' h) := by simp [wo, wants, bindW]
theorem wo_idxS {x i : Opd} {g : Rg} {fr : List AV} {d : Bool} {os : List (AOp × Option (Opd × Bool))} {env : List AV} {h : List Mem} {m' : Mem} : wo K g fr d (((AOp.idxS x i), none) :: os) env h m' = bindW K (evalP (Opd.ev env fr) m' (AOp.idxS x i)) g fr d os env (pushH d m' h) := by simp [wo, wants, bindW]
theorem wo_idxA {isAgg : Bool} {len sz : Nat} {x i : Opd} {g : Rg} {fr : List AV} {d : Bool} {os : List (AOp × Option (Opd × Bool))} {env : List AV} {h : List Mem} {m' : Mem} : wo K g fr d (((AOp.idxA isAgg len sz x i), none) :: os) env h m' = bindW K (evalP (Opd.ev env fr) m' (AOp.idxA isAgg len sz x i)) g fr d os env (pushH d m' h) := by simp [wo, wants, bindW]
theorem wo_lookup {kd : KK} {z : AV} {ok : Bool} {x k : Opd} {g : Rg} {fr : List AV} {d : Bool} {os : List (AOp × Option (Opd × Bool))} {env : List AV} {h : List Mem} {m' : Mem} : wo K g fr d (((AOp.lookup kd z ok x k), none) :: os) env h m' = bindW K (evalP (Opd.ev env fr) m' (AOp.lookup kd z ok x k)) g fr d os env (pushH d m' h) := by simp [wo, wants, bindW]
theorem wo_mapUpd {kd : KK} {x k v : Opd} {g : Rg} {fr : List AV} {d : Bool} {os : List (AOp × Option (Opd × Bool))} {env : List AV} {h : List Mem} {m' : Mem} : wo K g fr d (((AOp.mapUpd kd x k v), none) :: os) env h m' = bindW K (evalP (Opd.ev env fr) m' (AOp.mapUpd kd x k v)) g fr d os env (pushH d m' h) := by simp [wo, wants, bindW]
theorem wo_rangeS {x : Opd} {g : Rg} {fr : List AV} {d : Bool} {os : List (AOp × Option (Opd × Bool))} {env : List AV} {h : List Mem} {m' : Mem} : wo K g fr d (((AOp.rangeS x), none) :: os) env h m' = bindW K (evalP (Opd.ev env fr) m' (AOp.rangeS x)) g fr d os env (pushH d m' h) := by simp [wo, wants, bindW]
theorem wo_nextS {x : Opd} {g : Rg} {fr : List AV} {d : Bool} {os : List (AOp × Option (Opd × Bool))} {env : List AV} {h : List Mem} {m' : Mem} : wo K g fr d (((AOp.nextS x), none) :: os) env h m' = bindW K (evalP (Opd.ev env fr) m' (AOp.nextS x)) g fr d os env (pushH d m' h) := by simp [wo, wants, bindW]
theorem wo_tassert {t : TypeId} {z : AV} {ok : Bool} {x : Opd} {g : Rg} {fr : List AV} {d : Bool} {os : List (AOp × Option (Opd × Bool))} {env : List AV} {h : List Mem} {m' : Mem} : wo K g fr d (((AOp.tassert t z ok x), none) :: os) env h m' = bindW K (evalP (Opd.ev env fr) m' (AOp.tassert t z ok x)) g fr d os env (pushH d m' h) := by simp [wo, wants, bindW]
theorem wo_extract {i : Nat} {x : Opd} {g : Rg} {fr : List AV} {d : Bool} {os : List (AOp × Option (Opd × Bool))} {env : List AV} {h : List Mem} {m' : Mem} : wo K g fr d (((AOp.extract i x), none) :: os) env h m' = bindW K (evalP (Opd.ev env fr) m' (AOp.extract i x)) g fr d os env (pushH d m' h) := by simp [wo, wants, bindW]
theorem wo_len {k : LK} {x : Opd} {g : Rg} {fr : List AV} {d : Bool} {os : List (AOp × Option (Opd × Bool))} {env : List AV} {h : List Mem} {m' : Mem} : wo K g fr d (((AOp.len k x), none) :: os) env h m' = bindW K (evalP (Opd.ev env fr) m' (AOp.len k x)) g fr d os env (pushH d m' h) := by simp [wo, wants, bindW]
theorem wo_min {x y : Opd} {g : Rg} {fr : List AV} {d : Bool} {os : List (AOp × Option (Opd × Bool))} {env : List AV} {h : List Mem} {m' : Mem} : wo K g fr d (((AOp.min x y), none) :: os) env h m' = bindW K (evalP (Opd.ev env fr) m' (AOp.min x y)) g fr d os env (pushH d m' h) := by simp [wo, wants, bindW]
theorem wo_max {x y : Opd} {g : Rg} {fr : List AV} {d : Bool} {os : List (AOp × Option (Opd × Bool))} {env : List AV} {h : List Mem} {m' : Mem} : wo K g fr d (((AOp.max x y), none) :: os) env h m' = bindW K (evalP (Opd.ev env fr) m' (AOp.max x y)) g fr d os env (pushH d m' h) := by simp [wo, wants, bindW]
theorem wo_append {e : TypeId} {sz bytes : Nat} {a b : Opd} {g : Rg} {fr : List AV} {d : Bool} {os : List (AOp × Option (Opd × Bool))} {env : List AV} {h : List Mem} {m' : Mem} : wo K g fr d (((AOp.append e sz bytes a b), none) :: os) env h m' = bindW K (evalP (Opd.ev env fr) m' (AOp.append e sz bytes a b)) g fr d os env (pushH d m' h) := by simp [wo, wants, bindW]
theorem wo_appendO {e : TypeId} {sz bytes : Nat} {a b : Opd} {g : Rg} {fr : List AV} {d : Bool} {os : List (AOp × Option (Opd × Bool))} {env : List AV} {h : List Mem} {m' : Mem} : wo K g fr d (((AOp.appendO e sz bytes a b), none) :: os) env h m' = bindW K (evalP (Opd.ev env fr) m' (AOp.appendO e sz bytes a b)) g fr d os env (pushH d m' h) := by simp [wo, wants, bindW]
theorem wo_bytesO {e : TypeId} {x : Opd} {g : Rg} {fr : List AV} {d : Bool} {os : List (AOp × Option (Opd × Bool))} {env : List AV} {h : List Mem} {m' : Mem} : wo K g fr d (((AOp.bytesO e x), none) :: os) env h m' = bindW K (evalP (Opd.ev env fr) m' (AOp.bytesO e x)) g fr d os env (pushH d m' h) := by simp [wo, wants, bindW]
theorem wo_strO {x : Opd} {g : Rg} {fr : List AV} {d : Bool} {os : List (AOp × Option (Opd × Bool))} {env : List AV} {h : List Mem} {m' : Mem} : wo K g fr d (((AOp.strO x), none) :: os) env h m' = bindW K (evalP (Opd.ev env fr) m' (AOp.strO x)) g fr d os env (pushH d m' h) := by simp [wo, wants, bindW]
theorem wo_convP {x : Opd} {g : Rg} {fr : List AV} {d : Bool} {os : List (AOp × Option (Opd × Bool))} {env : List AV} {h : List Mem} {m' : Mem} : wo K g fr d (((AOp.convP x), none) :: os) env h m' = bindW K (evalP (Opd.ev env fr) m' (AOp.convP x)) g fr d os env (pushH d m' h) := by simp [wo, wants, bindW]
theorem wo_convU {alts : List (TypeId × Nat × Nat)} {x : Opd} {g : Rg} {fr : List AV} {d : Bool} {os : List (AOp × Option (Opd × Bool))} {env : List AV} {h : List Mem} {m' : Mem} : wo K g fr d (((AOp.convU alts x), none) :: os) env h m' = bindW K (evalP (Opd.ev env fr) m' (AOp.convU alts x)) g fr d os env (pushH d m' h) := by simp [wo, wants, bindW]
theorem wo_sliceData {x : Opd} {g : Rg} {fr : List AV} {d : Bool} {os : List (AOp × Option (Opd × Bool))} {env : List AV} {h : List Mem} {m' : Mem} : wo K g fr d (((AOp.sliceData x), none) :: os) env h m' = bindW K (evalP (Opd.ev env fr) m' (AOp.sliceData x)) g fr d os env (pushH d m' h) := by simp [wo, wants, bindW]
theorem wo_unsafeStr {u' : TypeId} {x n : Opd} {g : Rg} {fr : List AV} {d : Bool} {os : List (AOp × Option (Opd × Bool))} {env : List AV} {h : List Mem} {m' : Mem} : wo K g fr d (((AOp.unsafeStr u' x n), none) :: os) env h m' = bindW K (evalP (Opd.ev env fr) m' (AOp.unsafeStr u' x n)) g fr d os env (pushH d m' h) := by simp [wo, wants, bindW]
theorem wo_idxByte {x c : Opd} {g : Rg} {fr : List AV} {d : Bool} {os : List (AOp × Option (Opd × Bool))} {env : List AV} {h : List Mem} {m' : Mem} : wo K g fr d (((AOp.idxByte x c), none) :: os) env h m' = bindW K (evalP (Opd.ev env fr) m' (AOp.idxByte x c)) g fr d os env (pushH d m' h) := by simp [wo, wants, bindW]
theorem regN_eq {os : List (AOp × Option (Opd × Bool))} {exp : List (Nat × Opd)} {d : Bool} {okp : List Nat} {ps : List (List Nat)} {Q : AExit → List AV → Mem → Prop} {fr env : List AV} {h : List Mem} {m : Mem} :
    regN ⟨{ ops := os, exp := exp, draws := d, pairs := [], okPan := okp, preds := ps }, Q, fr⟩ env h m = Q .normal (exports env fr exp) m := propext ⟨fun h => h.2, fun h => ⟨(fun p hp => by cases hp), h⟩⟩
theorem regP_eq {os : List (AOp × Option (Opd × Bool))} {exp : List (Nat × Opd)} {okp : List Nat} {ps : List (List Nat)} {Q : AExit → List AV → Mem → Prop} {fr env : List AV} {v : AV} {h : List Mem} {m : Mem} :
    regP ⟨{ ops := os, exp := exp, draws := false, pairs := [], okPan := okp, preds := ps }, Q, fr⟩ v env h m = Q (.pan v) fr m := propext ⟨fun h => h.2.2, fun h => ⟨fun e => (by cases e), (fun p hp => by cases hp), h⟩⟩
theorem regP_dr {os : List (AOp × Option (Opd × Bool))} {exp : List (Nat × Opd)} {okp : List Nat} {ps : List (List Nat)} {Q : AExit → List AV → Mem → Prop} {fr env : List AV} {v : AV} {h : List Mem} {m : Mem} :
    regP ⟨{ ops := os, exp := exp, draws := true, pairs := [], okPan := okp, preds := ps }, Q, fr⟩ v env h m = (env.length ∈ okp ∧ Q (.pan v) fr m) := propext ⟨fun h => ⟨h.1 rfl, h.2.2⟩, fun h => ⟨fun _ => h.1, (fun p hp => by cases hp), h.2⟩⟩
end
def endsIn (rs : List ARes) (R : AV → Mem → Prop) (Z : AV → Mem → Prop) : AExit → List AV → Mem → Prop
  | .normal, fr, m => ∃ vs, resultsOf fr m rs = some vs ∧ R (oneOr vs) m
  | .ret, fr, m => ∃ vs, resultsOf fr m rs = some vs ∧ R (oneOr vs) m
  | .pan v, _, m => Z v m
  | .exit _, _, _ => False
def noPan : AV → Mem → Prop := fun _ _ => False
theorem call_by {P : Program} {xf : FuncId → Nat} {G : Nat → Option (List AV)} (hX : XfOk P xf) (hm : P.follows .mixedOrders = true) {f : FuncId} {fn : Func} {q : AFn} (hfn : P.funcs[f]? = some fn) (hok : fnOk P xf G fn q = true)
    {args : List AV} {m m' : Mem} {v : AV} (hl : args.length = q.nparams) (h : wc (CallSound P G) q.body (endsIn q.results (fun v' m1 => v' = v ∧ m1 = m') noPan) (args ++ List.replicate (q.nslots - q.nparams) .u) m) :
    CallSound P G f args m (.ret v) m' := by
  obtain ⟨e, fr', m1, k1, k2⟩ := wc_sound h
  cases e with
  | normal => obtain ⟨vs, l1, rfl, rfl⟩ := k2; exact call_ret hX hm (fun _ _ _ _ _ h => h) hfn hok hl k1 (.inl rfl) l1
  | ret => obtain ⟨vs, l1, rfl, rfl⟩ := k2; exact call_ret hX hm (fun _ _ _ _ _ h => h) hfn hok hl k1 (.inr rfl) l1
  | pan v => exact k2.elim
  | exit id => exact k2.elim
theorem call_some {P : Program} {xf : FuncId → Nat} {G : Nat → Option (List AV)} (hX : XfOk P xf) (hm : P.follows .mixedOrders = true) {f : FuncId} {fn : Func} {q : AFn} (hfn : P.funcs[f]? = some fn) (hok : fnOk P xf G fn q = true)
    {args : List AV} {m : Mem} {R : AV → Mem → Prop} (hl : args.length = q.nparams) (h : wc (CallSound P G) q.body (endsIn q.results R noPan) (args ++ List.replicate (q.nslots - q.nparams) .u) m) :
    ∃ v m', CallSound P G f args m (.ret v) m' ∧ R v m' := by
  obtain ⟨e, fr', m1, k1, k2⟩ := wc_sound h
  cases e with
  | normal => obtain ⟨vs, l1, k⟩ := k2; exact ⟨_, _, call_ret hX hm (fun _ _ _ _ _ h => h) hfn hok hl k1 (.inl rfl) l1, k⟩
  | ret => obtain ⟨vs, l1, k⟩ := k2; exact ⟨_, _, call_ret hX hm (fun _ _ _ _ _ h => h) hfn hok hl k1 (.inr rfl) l1, k⟩
  | pan v => exact k2.elim
  | exit id => exact k2.elim
end Go.Proofs.YtkjokjogdehonaaGreatDoor.Am
namespace Go.Proofs.YtkjokjogdehonaaGreatDoor.Am
open Go Go.RowKit
def SlOf (sz : Nat) (x : AV) (xs : List AV) : Prop := (x = .nilSl ∧ xs = []) ∨ ∃ o, x = .sl o sz xs
theorem SlOf.isLK {sz : Nat} {x : AV} {xs : List AV} (h : SlOf sz x xs) : Am.isLK .sli x = true := by
  rcases h with ⟨rfl, rfl⟩ | ⟨o, rfl⟩ <;> rfl
theorem SlOf.len {sz : Nat} {x : AV} {xs : List AV} (h : SlOf sz x xs) (m : Mem) : lenV m x = some (.int .i64 xs.length) := by
  rcases h with ⟨rfl, rfl⟩ | ⟨o, rfl⟩ <;> rfl
theorem SlOf.idx {sz : Nat} {x : AV} {xs : List AV} (h : SlOf sz x xs) {k : IntKind} {i : Int} {y : AV} (hi : 0 ≤ i) (hy : xs[i.toNat]? = some y) : idxAddrV sz x (.int k i) = some (.sptr y.cells 0) := by
  rcases h with ⟨rfl, rfl⟩ | ⟨o, rfl⟩
  · simp at hy
  · simp [idxAddrV, hi, hy]
theorem SlOf.elems {sz : Nat} {x : AV} {xs : List AV} (h : SlOf sz x xs) : Am.elems x = some xs := by
  rcases h with ⟨rfl, rfl⟩ | ⟨o, rfl⟩ <;> rfl
theorem pushH_false {m : Mem} {h : List Mem} : pushH false m h = h := rfl
theorem ev_loc0 {v : AV} {env fr : List AV} : Opd.ev (v :: env) fr (.loc 0) = v := rfl
theorem ev_locS {v : AV} {env fr : List AV} {n : Nat} : Opd.ev (v :: env) fr (.loc (n + 1)) = Opd.ev env fr (.loc n) := rfl
theorem ev_var0 {env fr : List AV} {v : AV} : Opd.ev env (v :: fr) (.var 0) = v := rfl
theorem ev_varS {env fr : List AV} {v : AV} {n : Nat} : Opd.ev env (v :: fr) (.var (n + 1)) = Opd.ev env fr (.var n) := rfl
theorem ev_cst {env fr : List AV} {v : AV} : Opd.ev env fr (.cst v) = v := rfl
theorem kills_cons {j : Nat} {js : List Nat} {fr : List AV} : kills (j :: js) fr = (kills js fr).set j .u := rfl
theorem kills_nil {fr : List AV} : kills [] fr = fr := rfl
theorem exports_cons {env fr : List AV} {j : Nat} {x : Opd} {es : List (Nat × Opd)} : exports env fr ((j, x) :: es) = (exports env fr es).set j (x.ev env fr) := rfl
theorem exports_nil {env fr : List AV} : exports env fr [] = fr := rfl
theorem set0 {v y : AV} {l : List AV} : (y :: l).set 0 v = v :: l := rfl
theorem setS {v y : AV} {l : List AV} {n : Nat} : (y :: l).set (n + 1) v = y :: l.set n v := rfl
theorem endsIn_n {rs : List ARes} {R Z : AV → Mem → Prop} {fr : List AV} {m : Mem} : endsIn rs R Z .normal fr m = ∃ vs, resultsOf fr m rs = some vs ∧ R (oneOr vs) m := rfl
theorem endsIn_r {rs : List ARes} {R Z : AV → Mem → Prop} {fr : List AV} {m : Mem} : endsIn rs R Z .ret fr m = ∃ vs, resultsOf fr m rs = some vs ∧ R (oneOr vs) m := rfl
theorem endsIn_p {rs : List ARes} {R Z : AV → Mem → Prop} {fr : List AV} {m : Mem} {v : AV} : endsIn rs R Z (.pan v) fr m = Z v m := rfl
theorem part_f {n off : Nat} {cs : List AV} : part false n cs off = cs[off]? := rfl
theorem part_1 {a : AV} : part true 1 [a] 0 = some (.agg [a]) := rfl
theorem part_2 {a b : AV} : part true 2 [a, b] 0 = some (.agg [a, b]) := rfl
theorem part_3 {a b c : AV} : part true 3 [a, b, c] 0 = some (.agg [a, b, c]) := rfl
theorem part_4 {a b c d : AV} : part true 4 [a, b, c, d] 0 = some (.agg [a, b, c, d]) := rfl
def loadObj (o : AObj) (g : Bool) (n off : Nat) : Option AV :=
  match o with
  | .cells _ cs => part g n cs off
  | .grow _ cs => part g n cs off
  | _ => none
theorem loadObj_grow {t : TypeId} {cs : List AV} {g : Bool} {n off : Nat} : loadObj (.grow t cs) g n off = part g n cs off := rfl
theorem loadObj_cells {t : TypeId} {cs : List AV} {g : Bool} {n off : Nat} : loadObj (.cells t cs) g n off = part g n cs off := rfl
theorem load_ptr {m : Mem} {g : Bool} {n id off : Nat} : m.load g n (.ptr id off) = loadObj (m.get id) g n off := by
  simp only [Mem.load, loadObj]; split <;> simp_all
theorem load_sptr {m : Mem} {g : Bool} {n off : Nat} {cs : List AV} : m.load g n (.sptr cs off) = part g n cs off := rfl
def storeAll (xs : List AV) : Bool := xs.all scal
theorem get_set_same {m : Mem} {i : Nat} {o : AObj} : (m.set i o).get i = o := by simp [Mem.set]
theorem get_set_other {m : Mem} {i j : Nat} {o : AObj} (h : j ≠ i) : (m.set i o).get j = m.get j := by simp [Mem.set, h]
theorem get_new {m : Mem} {o : AObj} : (m.alloc o).get m.next = o := by simp [Mem.alloc]
theorem get_old {m : Mem} {o : AObj} {i : Nat} (h : i ≠ m.next) : (m.alloc o).get i = m.get i := by simp [Mem.alloc, h]
theorem next_alloc {m : Mem} {o : AObj} : (m.alloc o).next = m.next + 1 := rfl
theorem SlOf.scal {sz : Nat} {x : AV} {xs : List AV} (h : SlOf sz x xs) : Am.scal x = true := by
  rcases h with ⟨rfl, rfl⟩ | ⟨o, rfl⟩ <;> rfl
theorem ex_some {α : Type} {a : α} {Q : α → Prop} : (∃ b, some a = some b ∧ Q b) = Q a := by simp
theorem cells_agg {cs : List AV} : (AV.agg cs).cells = cs := rfl
theorem cells_bool {b : Bool} : ((.bool b) : AV).cells = [(.bool b)] := rfl
theorem cells_int {k : IntKind} {n : Int} : ((.int k n) : AV).cells = [(.int k n)] := rfl
theorem cells_str {s : List UInt8} : ((.str s) : AV).cells = [(.str s)] := rfl
theorem cells_tup {vs : List AV} : ((.tup vs) : AV).cells = [(.tup vs)] := rfl
theorem cells_nilSl : (.nilSl : AV).cells = [.nilSl] := rfl
theorem cells_sl {o : Own} {sz : Nat} {xs : List AV} : ((.sl o sz xs) : AV).cells = [(.sl o sz xs)] := rfl
theorem cells_osl {a b c d e : Nat} : ((.osl a b c d e) : AV).cells = [(.osl a b c d e)] := rfl
theorem cells_gsl {a b c : Nat} : ((.gsl a b c) : AV).cells = [(.gsl a b c)] := rfl
theorem cells_nilPtr : (.nilPtr : AV).cells = [.nilPtr] := rfl
theorem cells_ptr {i o : Nat} : ((.ptr i o) : AV).cells = [(.ptr i o)] := rfl
theorem cells_sptr {cs : List AV} {o : Nat} : ((.sptr cs o) : AV).cells = [(.sptr cs o)] := rfl
theorem cells_bptr {t : TypeId} {cs : List AV} : ((.bptr t cs) : AV).cells = [(.bptr t cs)] := rfl
theorem cells_nilMap : (.nilMap : AV).cells = [.nilMap] := rfl
theorem cells_map {i : Nat} : ((.map i) : AV).cells = [(.map i)] := rfl
theorem cells_nilFn : (.nilFn : AV).cells = [.nilFn] := rfl
theorem cells_fn {f : Fn} {a b : List AV} : ((.fn f a b) : AV).cells = [(.fn f a b)] := rfl
theorem cells_nilIface : (.nilIface : AV).cells = [.nilIface] := rfl
theorem cells_iface {t : TypeId} {v : AV} : ((.iface t v) : AV).cells = [(.iface t v)] := rfl
attribute [go_sem] wc_skip wc_exit wc_ret wc_seq wc_block wc_cond wc_loop wc_region wo_nil wo_call wo_callV wo_pan wo_guard wo_move wo_pick wo_alloc wo_box wo_build wo_buildSl wo_buildSlT wo_convB ownSl convBV wo_load wo_store wo_nilck wo_bin wo_eq wo_not wo_neg wo_inv wo_convI wo_bytesOf wo_strOf wo_runeStr wo_mkIface wo_mkFn wo_mkMap wo_sliceS wo_sliceL wo_fieldAddr wo_field wo_idxAddr wo_idxAddrA wo_idxS wo_idxA wo_lookup wo_mapUpd wo_rangeS wo_nextS wo_tassert wo_extract wo_len wo_min wo_max wo_append wo_appendO wo_bytesO wo_strO wo_convP wo_convU wo_sliceData wo_unsafeStr wo_idxByte seqQ_n seqQ_x seqQ_r seqQ_p loopQ_n loopQ_x loopQ_r loopQ_p blockQ_n blockQ_x blockQ_r blockQ_p endsIn_n endsIn_r endsIn_p bindW_some wantW_true wantW_false boolW_true boolW_false panW_iface callVW_some regN_eq regP_eq regP_dr Nat.zero_add Bool.false_eq_true if_false ex_some evalP ev_loc0 ev_locS ev_var0 ev_varS ev_cst pushH_false kills_cons kills_nil exports_cons exports_nil set0 setS true_and and_true List.map_cons List.map_nil Option.map_some Option.map_none List.isEmpty_nil List.isEmpty_cons Bool.not_true Bool.not_false binV strV intV resultsOf ARes.get oneOr List.append_nil List.cons_append List.nil_append List.replicate List.getD_cons_zero List.getD_cons_succ if_true cells_agg cells_bool cells_int cells_str cells_tup cells_nilSl cells_sl cells_osl cells_gsl cells_nilPtr cells_ptr cells_sptr cells_bptr cells_nilMap cells_map cells_nilFn cells_fn cells_nilIface cells_iface load_ptr load_sptr loadObj_cells loadObj_grow part_f part_1 part_2 part_3 part_4 List.getElem?_cons_zero List.getElem?_cons_succ fieldAddrV nilckV callOf wants beq_self_eq_true Bool.true_beq Bool.false_beq
end Go.Proofs.YtkjokjogdehonaaGreatDoor.Am
namespace Go.Proofs.YtkjokjogdehonaaGreatDoor.Am
open Go
abbrev Op2 := AOp × Option (Opd × Bool)
abbrev L0 : Opd := .loc 0
abbrev L1 : Opd := .loc 1
abbrev L2 : Opd := .loc 2
abbrev L3 : Opd := .loc 3
abbrev L4 : Opd := .loc 4
abbrev L5 : Opd := .loc 5
abbrev L6 : Opd := .loc 6
abbrev L7 : Opd := .loc 7
abbrev L8 : Opd := .loc 8
abbrev L9 : Opd := .loc 9
abbrev L10 : Opd := .loc 10
abbrev L11 : Opd := .loc 11
abbrev L12 : Opd := .loc 12
abbrev L13 : Opd := .loc 13
abbrev L14 : Opd := .loc 14
abbrev L15 : Opd := .loc 15
abbrev L16 : Opd := .loc 16
abbrev L17 : Opd := .loc 17
abbrev L18 : Opd := .loc 18
abbrev L19 : Opd := .loc 19
abbrev L20 : Opd := .loc 20
abbrev L21 : Opd := .loc 21
abbrev L22 : Opd := .loc 22
abbrev L23 : Opd := .loc 23
abbrev L24 : Opd := .loc 24
abbrev L25 : Opd := .loc 25
abbrev L26 : Opd := .loc 26
abbrev L27 : Opd := .loc 27
abbrev L28 : Opd := .loc 28
abbrev L29 : Opd := .loc 29
abbrev L30 : Opd := .loc 30
abbrev L31 : Opd := .loc 31
abbrev L32 : Opd := .loc 32
abbrev L33 : Opd := .loc 33
abbrev L34 : Opd := .loc 34
abbrev L35 : Opd := .loc 35
abbrev L36 : Opd := .loc 36
abbrev L37 : Opd := .loc 37
abbrev L38 : Opd := .loc 38
abbrev L39 : Opd := .loc 39
abbrev L40 : Opd := .loc 40
abbrev L41 : Opd := .loc 41
abbrev L42 : Opd := .loc 42
abbrev L43 : Opd := .loc 43
abbrev L44 : Opd := .loc 44
abbrev L45 : Opd := .loc 45
abbrev L46 : Opd := .loc 46
abbrev L47 : Opd := .loc 47
abbrev L48 : Opd := .loc 48
abbrev L49 : Opd := .loc 49
abbrev L50 : Opd := .loc 50
abbrev L51 : Opd := .loc 51
abbrev L52 : Opd := .loc 52
abbrev L53 : Opd := .loc 53
abbrev L54 : Opd := .loc 54
abbrev L55 : Opd := .loc 55
abbrev L56 : Opd := .loc 56
abbrev L57 : Opd := .loc 57
abbrev L58 : Opd := .loc 58
abbrev L59 : Opd := .loc 59
abbrev V0 : Opd := .var 0
abbrev V1 : Opd := .var 1
abbrev V2 : Opd := .var 2
abbrev V3 : Opd := .var 3
abbrev V4 : Opd := .var 4
abbrev V5 : Opd := .var 5
abbrev V6 : Opd := .var 6
abbrev V7 : Opd := .var 7
abbrev V8 : Opd := .var 8
abbrev V9 : Opd := .var 9
abbrev V10 : Opd := .var 10
abbrev V11 : Opd := .var 11
abbrev V12 : Opd := .var 12
abbrev V13 : Opd := .var 13
abbrev V14 : Opd := .var 14
abbrev V15 : Opd := .var 15
abbrev V16 : Opd := .var 16
abbrev V17 : Opd := .var 17
abbrev V18 : Opd := .var 18
abbrev V19 : Opd := .var 19
abbrev V20 : Opd := .var 20
abbrev V21 : Opd := .var 21
abbrev V22 : Opd := .var 22
abbrev V23 : Opd := .var 23
abbrev V24 : Opd := .var 24
abbrev V25 : Opd := .var 25
abbrev V26 : Opd := .var 26
abbrev V27 : Opd := .var 27
abbrev V28 : Opd := .var 28
abbrev V29 : Opd := .var 29
abbrev V30 : Opd := .var 30
abbrev V31 : Opd := .var 31
abbrev V32 : Opd := .var 32
abbrev V33 : Opd := .var 33
abbrev V34 : Opd := .var 34
abbrev V35 : Opd := .var 35
abbrev V36 : Opd := .var 36
abbrev V37 : Opd := .var 37
abbrev V38 : Opd := .var 38
abbrev V39 : Opd := .var 39
abbrev V40 : Opd := .var 40
abbrev V41 : Opd := .var 41
abbrev V42 : Opd := .var 42
abbrev V43 : Opd := .var 43
abbrev V44 : Opd := .var 44
abbrev V45 : Opd := .var 45
abbrev V46 : Opd := .var 46
abbrev V47 : Opd := .var 47
abbrev V48 : Opd := .var 48
abbrev V49 : Opd := .var 49
abbrev V50 : Opd := .var 50
abbrev V51 : Opd := .var 51
abbrev V52 : Opd := .var 52
abbrev V53 : Opd := .var 53
abbrev V54 : Opd := .var 54
abbrev V55 : Opd := .var 55
abbrev V56 : Opd := .var 56
abbrev V57 : Opd := .var 57
abbrev V58 : Opd := .var 58
abbrev V59 : Opd := .var 59
abbrev ci (n : Int) : Opd := .cst (.int .i64 n)
abbrev cb (n : Int) : Opd := .cst (.int .u8 n)
abbrev cs (l : List UInt8) : Opd := .cst (.str l)
abbrev cT : Opd := .cst (.bool true)
abbrev cF : Opd := .cst (.bool false)
abbrev cU : Opd := .cst .u
abbrev zi : AV := .int .i64 0
abbrev zs : AV := .str []
abbrev zb : AV := .bool false
abbrev oN (o : AOp) : Op2 := (o, none)
abbrev oT (o : AOp) (x : Opd) : Op2 := (o, some (x, true))
abbrev oF (o : AOp) (x : Opd) : Op2 := (o, some (x, false))
abbrev om (x : Opd) : Op2 := (.move x, none)
abbrev omT (x y : Opd) : Op2 := (.move x, some (y, true))
abbrev omF (x y : Opd) : Op2 := (.move x, some (y, false))
abbrev ol (x : Opd) : Op2 := (.load false 1 x, none)
abbrev oa (n : Nat) (x : Opd) : Op2 := (.load true n x, none)
abbrev os (n : Nat) (a x : Opd) : Op2 := (.store n a x, none)
abbrev ox (n : Nat) (x : Opd) : Op2 := (.extract n x, none)
abbrev of (n : Nat) (x : Opd) : Op2 := (.fieldAddr n x, none)
abbrev ob (b : BinOp) (x y : Opd) : Op2 := (.bin b x y, none)
abbrev oc (f : FuncId) (l : List Opd) : Op2 := (.call f l, none)
abbrev op (c a b : Opd) : Op2 := (.pick c a b, none)
abbrev on (k : LK) (x : Opd) : Op2 := (.len k x, none)
abbrev rg (a : List Op2) (e : List (Nat × Opd)) : ARegion := { ops := a, exp := e }
abbrev rd (a : List Op2) (e : List (Nat × Opd)) (p : List (Nat × Nat)) (k : List Nat) (q : List (List Nat)) : ARegion := { ops := a, exp := e, draws := true, pairs := p, okPan := k, preds := q }
abbrev rr (r : ARegion) : ACode := .region r
abbrev sq (a b : ACode) : ACode := .seq a b
attribute [go_sem] L0 L1 L2 L3 L4 L5 L6 L7 L8 L9 L10 L11 L12 L13 L14 L15 L16 L17 L18 L19 L20 L21 L22 L23 L24 L25 L26 L27 L28 L29 L30 L31 L32 L33 L34 L35 L36 L37 L38 L39 L40 L41 L42 L43 L44 L45 L46 L47 L48 L49 L50 L51 L52 L53 L54 L55 L56 L57 L58 L59 V0 V1 V2 V3 V4 V5 V6 V7 V8 V9 V10 V11 V12 V13 V14 V15 V16 V17 V18 V19 V20 V21 V22 V23 V24 V25 V26 V27 V28 V29 V30 V31 V32 V33 V34 V35 V36 V37 V38 V39 V40 V41 V42 V43 V44 V45 V46 V47 V48 V49 V50 V51 V52 V53 V54 V55 V56 V57 V58 V59 ci cb cs cT cF cU zi zs zb oN oT oF om omT omF ol oa os ox of ob oc op on rg rd rr sq
end Go.Proofs.YtkjokjogdehonaaGreatDoor.Am
namespace Go.Proofs.YtkjokjogdehonaaGreatDoor.Am
open Go Go.RowKit
section
variable {H : Type} {enc : TypeId × Value → H} {P : Program} {w : World} {base : Nat} {sp : Nat → Bool} {held : Bool}
mutual
def flatD : DataW H → List Value
  | .lit (.int k n) => [.int k n]
  | .agg ps => flatDs ps
  | _ => []
def flatDs : List (DataW H) → List Value
  | [] => []
  | d :: ds => flatD d ++ flatDs ds
end
theorem flatDs_eq : ∀ l : List (DataW H), flatDs l = (l.map flatD).flatten
  | [] => by simp [flatDs]
  | d :: l => by simp [flatDs, flatDs_eq l]
def tiles : Nat → List (Nat × Nat) → Bool
  | _, [] => true
  | o, (off, n) :: l => decide (off = o) && tiles (o + n) l
def sizes' : List (Nat × Nat) → Nat
  | [] => 0
  | (_, n) :: l => n + sizes' l
theorem tile {α : Type} (cs : List α) : ∀ (l : List (Nat × Nat)) (o : Nat), tiles o l = true → cs.length = o + sizes' l → cs.drop o = (l.map fun p => (cs.drop p.1).take p.2).flatten
  | [], o, _, h => by simp only [sizes', Nat.add_zero] at h; rw [List.drop_of_length_le (by omega)]; rfl
  | (off, n) :: l, o, ht, h => by
    simp only [tiles, Bool.and_eq_true, decide_eq_true_eq] at ht
    obtain ⟨rfl, ht⟩ := ht
    simp only [sizes'] at h
    simp only [List.map_cons, List.flatten_cons]
    rw [← tile cs l (off + n) ht (by omega), ← List.drop_drop]
    exact (List.take_append_drop n (cs.drop off)).symm
def numT (P : Program) : Nat → TypeId → Bool
  | 0, _ => false
  | f + 1, t => match P.underlying t with
    | some (.int _) => true
    | some (.array n e) => numT P f e && decide (n * P.cellsOf e = P.cellsOf t)
    | some (.struct fs) => fs.toList.all (fun x => numT P f x.type) && tiles 0 (fs.toList.map fun x => (x.offset, P.cellsOf x.type)) && decide (sizes' (fs.toList.map fun x => (x.offset, P.cellsOf x.type)) = P.cellsOf t)
    | _ => false
theorem tiles_range (sz : Nat) : ∀ (n k : Nat), tiles (k * sz) ((List.range' k n).map fun i => (i * sz, sz)) = true
  | 0, _ => rfl
  | n + 1, k => by
    rw [List.range'_succ, List.map_cons]
    simp only [tiles, decide_true, Bool.true_and]
    have := tiles_range sz n (k + 1)
    rwa [Nat.add_mul, Nat.one_mul] at this
theorem sizes_range (sz : Nat) : ∀ (n k : Nat), sizes' ((List.range' k n).map fun i => (i * sz, sz)) = n * sz
  | 0, _ => by simp [sizes']
  | n + 1, k => by
    rw [List.range'_succ, List.map_cons]
    simp only [sizes']
    rw [sizes_range sz n (k + 1), Nat.add_mul, Nat.one_mul, Nat.add_comm]
theorem trod_nums : ∀ {f fuel : Nat} {t : TypeId} {cs : List Value} {x : DataW H × List MemPlace}, numT P f t = true → DataW.trod enc P w base sp held fuel t cs = some x → flatD x.1 = cs
  | 0, _, _, _, _, h, _ => by simp [numT] at h
  | f + 1, fuel, t, cs, x, hn, h => by
    simp only [numT] at hn
    split at hn
    · rename_i k hu
      obtain ⟨n, rfl, rfl, _⟩ := DataW.trod_int hu h
      rfl
    · rename_i n e hu
      simp only [Bool.and_eq_true, decide_eq_true_eq] at hn
      obtain ⟨xs, m, rfl, rfl, hl, hxl, hx⟩ := DataW.trod_array hu h
      simp only [flatD, flatDs_eq]
      have e1 : (xs.map (·.1)).map flatD = ((List.range' 0 n).map fun i => (i * P.cellsOf e, P.cellsOf e)).map fun p => (cs.drop p.1).take p.2 := by
        apply List.ext_getElem?
        intro i
        by_cases hi : i < n
        · have h1 := hx i hi
          rw [List.getElem?_eq_getElem (by omega)] at h1
          have h2 := trod_nums hn.1 h1
          simp [List.getElem?_eq_getElem (show i < xs.length by omega), hi, h2]
        · rw [List.getElem?_eq_none (by simp; omega), List.getElem?_eq_none (by simp; omega)]
      rw [e1, ← tile cs _ 0 (by simpa using tiles_range (P.cellsOf e) n 0) (by rw [sizes_range, hl, hn.2]; omega), List.drop_zero]
    · rename_i fs hu
      simp only [Bool.and_eq_true, decide_eq_true_eq] at hn
      obtain ⟨⟨h1, h2⟩, h3⟩ := hn
      obtain ⟨xs, m, rfl, rfl, hl, hxl, hx⟩ := DataW.trod_struct hu h
      simp only [flatD, flatDs_eq]
      have e1 : (xs.map (·.1)).map flatD = (fs.toList.map fun x => (x.offset, P.cellsOf x.type)).map fun p => (cs.drop p.1).take p.2 := by
        apply List.ext_getElem?
        intro i
        by_cases hi : i < fs.size
        · have h4 := hx i fs[i] (by simp [hi])
          rw [List.getElem?_eq_getElem (by omega)] at h4
          have h5 := trod_nums (List.all_eq_true.1 h1 fs[i] (by simp)) h4
          simp [List.getElem?_eq_getElem (show i < xs.length by omega), hi, h5]
        · rw [List.getElem?_eq_none (by simp; omega), List.getElem?_eq_none (by simp; omega)]
      rw [e1, ← tile cs _ 0 h2 (by omega), List.drop_zero]
    · cases hn
end
def cxOf (W : World) : Cx := { St := fun b o v => W.cell? ⟨b, o, none⟩ = some v, I := fun _ _ => False, R := fun _ _ _ _ => False, T := fun _ _ => False, Z := fun _ => False, K := fun _ _ => False }
theorem inv_begin {G : Nat → Option (List AV)} {W : World} (hG : ∀ g cs, G g = some cs → Rep (cxOf W) (.sptr cs 0) (.pointer (some ⟨g, 0, none⟩))) : Inv G W (cxOf W) m0 W :=
  { below := .refl _ _, st := fun _ _ _ h => h, obj := fun _ _ hb => hb.elim, inj := fun _ _ _ hb => hb.elim, func := fun _ _ _ hb => hb.elim, sti := fun _ _ _ _ _ hb => hb.elim,
    tok := fun _ _ _ _ hr => hr.elim, shp := fun _ _ ht => ht.elim, tty := fun _ _ _ _ hr => hr.elim, shut := fun _ hz => hz.elim, tokf := fun _ _ _ _ _ _ _ hr => hr.elim, toku := fun _ _ _ _ _ _ _ hr => hr.elim, kap := fun _ _ hk => hk.elim,
    glob := hG }
def avInt : Value → AV
  | .int k n => .int k n
  | _ => .u
theorem avInt_rep {C : Cx} (v : Value) : Rep C (avInt v) v := by
  cases v <;> first | exact .int _ _ | exact .u _
def globOk (P : Program) (G : Nat → Option (List AV)) : List (String × DataW Unit) → Bool
  | [] => true
  | (n, d) :: r => (match P.globalNamed n with
    | some g => (match P.globals[g]? with
      | some x => numT P 6 x.type && (match G g with
        | some cs => beqAVs cs ((flatD d).map avInt)
        | none => true)
      | none => false)
    | none => false) && globOk P G r
where
  beqAVs : List AV → List AV → Bool
    | [], [] => true
    | .int k a :: xs, .int k' b :: ys => decide (k = k') && decide (a = b) && beqAVs xs ys
    | _, _ => false
theorem beqAVs_eq : ∀ {xs ys : List AV}, globOk.beqAVs xs ys = true → xs = ys
  | [], [], _ => rfl
  | [], _ :: _, h => by simp [globOk.beqAVs] at h
  | x :: xs, [], h => by cases x <;> simp [globOk.beqAVs] at h
  | x :: xs, y :: ys, h => by
    cases x <;> try (simp [globOk.beqAVs] at h; done)
    cases y <;> try (simp [globOk.beqAVs] at h; done)
    simp only [globOk.beqAVs, Bool.and_eq_true, decide_eq_true_eq] at h
    obtain ⟨⟨rfl, rfl⟩, h⟩ := h
    rw [beqAVs_eq h]
theorem glob_of_laid {P : Program} {G : Nat → Option (List AV)} {W : World} : ∀ {laid : List (String × DataW Unit)} {ps : List MemPlace}, globOk P G laid = true → DataW.LaidVars P W laid ps →
    ∀ g cs, G g = some cs → (laid.any fun x => decide (P.globalNamed x.1 = some g)) = true → Rep (cxOf W) (.sptr cs 0) (.pointer (some ⟨g, 0, none⟩))
  | [], _, _, _, g, cs, _, h => by simp at h
  | (n, d) :: r, ps, hok, hl, g, cs, hg, hin => by
    obtain ⟨g', t, vs, fuel, p, q, h1, h2, h3, h4, h5, _⟩ := hl
    simp only [globOk, Bool.and_eq_true] at hok
    obtain ⟨ha, hb⟩ := hok
    by_cases e : g' = g
    · subst e
      simp only [h1] at ha
      cases hx : P.globals[g']? with
      | none => simp [hx] at h2
      | some y =>
        simp only [hx, Option.map_some, Option.some.injEq] at h2
        subst h2
        simp only [hx, hg, Bool.and_eq_true] at ha
        have hv := trod_nums ha.1 h4
        have hc := beqAVs_eq ha.2
        refine .sptr cs 0 g' 0 (fun j => vs.getD j undef) (fun j hj => ?_) (fun j hj => ?_)
        · show W.cell? _ = _
          rw [Nat.zero_add, World.var?_cell h1 h3 j]
          have hlen : cs.length = vs.size := by rw [hc, List.length_map, hv]; simp
          rw [Array.getD_eq_getD_getElem?, Array.getElem?_eq_getElem (by omega)]; rfl
        · have hlen : cs.length = vs.size := by rw [hc, List.length_map, hv]; simp
          have : cs.getD j .u = avInt (vs.getD j undef) := by
            have hj' : j < vs.size := by omega
            have e : cs = vs.toList.map avInt := by rw [hc, hv]
            rw [e]
            simp [List.getD, Array.getD_eq_getD_getElem?, hj']
          rw [this]; exact avInt_rep _
    · refine glob_of_laid hb h5 g cs hg ?_
      simp only [List.any_cons, Bool.or_eq_true, decide_eq_true_eq] at hin
      rcases hin with hin | hin
      · rw [h1] at hin; exact absurd (Option.some.inj hin) e
      · exact hin
section
variable {H : Type} {enc : TypeId × Value → H} {P : Program} {W : World} {base : Nat} {sp : Nat → Bool} {held : Bool} {fuel : Nat} {t : TypeId} {cs : List Value} {x : DataW H × List MemPlace}
structure CellsOf (W : World) (as : List AV) (cs : List Value) : Prop where
  len : cs.length = as.length
  rep : ∀ i, i < as.length → Rep (cxOf W) (as.getD i .u) (cs.getD i undef)
  closed : ∀ i, i < as.length → Closed (as.getD i .u)
theorem CellsOf.one {a : AV} {v : Value} (h : Rep (cxOf W) a v) (hc : Closed a) : CellsOf W [a] [v] :=
  ⟨rfl, fun i hi => by obtain rfl : i = 0 := by simpa using hi
                       exact h, fun i hi => by obtain rfl : i = 0 := by simpa using hi
                                               exact hc⟩
theorem CellsOf.nil : CellsOf W [] [] := ⟨rfl, fun i hi => absurd hi (Nat.not_lt_zero _), fun i hi => absurd hi (Nat.not_lt_zero _)⟩
theorem CellsOf.append {as bs : List AV} {cs ds : List Value} (h : CellsOf W as cs) (k : CellsOf W bs ds) : CellsOf W (as ++ bs) (cs ++ ds) := by
  refine ⟨by simp [h.len, k.len], fun i hi => ?_, fun i hi => ?_⟩
  · by_cases e : i < as.length
    · have := h.rep i e
      simpa [List.getD, List.getElem?_append_left e, List.getElem?_append_left (show i < cs.length by rw [h.len]; exact e)] using this
    · have := k.rep (i - as.length) (by simp at hi; omega)
      simpa [List.getD, List.getElem?_append_right (show as.length ≤ i by omega), List.getElem?_append_right (show cs.length ≤ i by rw [h.len]; omega), h.len] using this
  · by_cases e : i < as.length
    · have := h.closed i e
      simpa [List.getD, List.getElem?_append_left e] using this
    · have := k.closed (i - as.length) (by simp at hi; omega)
      simpa [List.getD, List.getElem?_append_right (show as.length ≤ i by omega)] using this
theorem read_int {k : IntKind} (ht : P.underlying t = some (.int k)) (h : DataW.trod enc P W base sp held fuel t cs = some x) :
    ∃ n, CellsOf W [.int k n] cs ∧ x.1 = .lit (.int k n) ∧ (Lit.int k n).wf = true := by
  obtain ⟨n, rfl, rfl, hw⟩ := DataW.trod_int ht h
  exact ⟨n, .one (.int _ _) .int, rfl, hw⟩
theorem read_str (ht : P.underlying t = some .string) (h : DataW.trod enc P W base sp held fuel t cs = some x) :
    ∃ l : List UInt8, CellsOf W [.str l] cs ∧ x.1 = .lit (.string l) ∧ l.length ≤ maxLen := by
  obtain ⟨s, rfl, rfl, hs⟩ := DataW.trod_string ht h
  exact ⟨_, .one (.str _ s rfl) .str, rfl, by simpa using hs⟩
def Fits (P : Program) (t : TypeId) (d : DataW H) : Prop := ∀ n ∈ d.weights P t, n ≤ reachBytes
theorem weightsAll_mem {e : TypeId} {d : DataW H} {n : Nat} (hn : n ∈ d.weights P e) : ∀ {l : List (DataW H)}, d ∈ l → n ∈ DataW.weightsAll P e l
  | y :: l, h => by
    rw [DataW.weightsAll, List.mem_append]
    rcases List.mem_cons.1 h with rfl | h
    · exact .inl hn
    · exact .inr (weightsAll_mem hn h)
theorem weightsEach_mem {t : TypeId} {d : DataW H} {n : Nat} (hn : n ∈ d.weights P t) : ∀ {ts : List TypeId} {l : List (DataW H)} {i : Nat}, ts[i]? = some t → l[i]? = some d → n ∈ DataW.weightsEach P ts l
  | t' :: ts, d' :: l, 0, h, k => by
    simp only [List.getElem?_cons_zero, Option.some.injEq] at h k
    subst h; subst k
    rw [DataW.weightsEach, List.mem_append]; exact .inl hn
  | t' :: ts, d' :: l, i + 1, h, k => by
    rw [DataW.weightsEach, List.mem_append]; exact .inr (weightsEach_mem hn (by simpa using h) (by simpa using k))
  | [], _, _, h, _ => by simp at h
  | _ :: _, [], _, _, k => by simp at k
theorem fits_str {l : List UInt8} (h : Fits P t (.lit (.string l) : DataW H)) : l.length ≤ reachBytes := h _ (by simp [DataW.weights])
theorem read_struct {fs : Array Field} (ht : P.underlying t = some (.struct fs)) (hw : Fits P t x.1) (h : DataW.trod enc P W base sp held fuel t cs = some x) :
    cs.length = P.cellsOf t ∧ ∀ (i : Nat) (f : Field), fs[i]? = some f → ∃ n y, SizeOf.sizeOf y.1 < SizeOf.sizeOf x.1 ∧ Fits P f.type y.1 ∧ DataW.trod enc P W base sp held n f.type ((cs.drop f.offset).take (P.cellsOf f.type)) = some y := by
  obtain ⟨xs, n, rfl, rfl, hl, hxl, hx⟩ := DataW.trod_struct ht h
  refine ⟨hl, fun i f hf => ?_⟩
  have hi : i < fs.size := (Array.getElem?_eq_some_iff.1 hf).1
  have h1 := hx i f hf
  rw [List.getElem?_eq_getElem (by omega)] at h1
  refine ⟨n, _, ?_, fun m hm => hw m ?_, h1⟩
  · have : SizeOf.sizeOf (xs[i]'(by omega)).1 < SizeOf.sizeOf (xs.map (·.1)) := List.sizeOf_lt_of_mem (List.mem_map.2 ⟨_, List.getElem_mem _, rfl⟩)
    simp only [DataW.agg.sizeOf_spec]; omega
  · rw [DataW.weights, ht]
    exact weightsEach_mem hm (i := i) (by simp [hf]) (by simp [hxl, hi])
def structB (P : Program) (t : TypeId) (l : List (TypeId × Nat)) : Bool :=
  match P.underlying t with
  | some (.struct fs) => decide (fs.toList.map (fun f => (f.type, f.offset)) = l)
  | _ => false
theorem read_fields {l : List (TypeId × Nat)} (hb : structB P t l = true) (hw : Fits P t x.1) (h : DataW.trod enc P W base sp held fuel t cs = some x) :
    cs.length = P.cellsOf t ∧ ∀ (i : Nat) (p : TypeId × Nat), l[i]? = some p → ∃ n y, SizeOf.sizeOf y.1 < SizeOf.sizeOf x.1 ∧ Fits P p.1 y.1 ∧ DataW.trod enc P W base sp held n p.1 ((cs.drop p.2).take (P.cellsOf p.1)) = some y := by
  unfold structB at hb
  split at hb
  · rename_i fs hu
    have e := of_decide_eq_true hb
    subst e
    obtain ⟨h1, h2⟩ := read_struct hu hw h
    refine ⟨h1, fun i p hp => ?_⟩
    simp only [List.getElem?_map, Option.map_eq_some_iff, Array.getElem?_toList] at hp
    obtain ⟨f, hf, rfl⟩ := hp
    exact h2 i f hf
  · cases hb
theorem read_slice {e : TypeId} {α : Type} [Inhabited α] {R : α → List AV → Prop} (ht : P.underlying t = some (.slice e)) (hsz : 0 < P.cellsOf e)
    (wrap : List AV → AV) (hwrap : ∀ a as, R a as → (wrap as).cells = as)
    (hw : Fits P t x.1) (h : DataW.trod enc P W base (fun _ => true) held fuel t cs = some x)
    (he : ∀ (n : Nat) (cs : List Value) (y : DataW H × List MemPlace), SizeOf.sizeOf y.1 < SizeOf.sizeOf x.1 → Fits P e y.1 → DataW.trod enc P W base (fun _ => true) held n e cs = some y → ∃ (a : α) (as : List AV), R a as ∧ CellsOf W as cs) :
    ∃ (v : AV) (l : List α) (xs : List AV), CellsOf W [v] cs ∧ SlOf (P.cellsOf e) v xs ∧ xs.length = l.length ∧ l.length * P.bytesOf e ≤ reachBytes ∧ (∀ i, i < l.length → ∃ as, R (l.getD i default) as ∧ xs.getD i .u = wrap as) := by
  rcases Go.Deep.open_slice ht h with ⟨rfl, rfl⟩ | ⟨a, len, cap, m, n, D, Pl, rfl, hb, hl, hm, hmm, rfl, hx⟩
  · exact ⟨.nilSl, [], [], .one .nilSl .nilSl, .inl ⟨rfl, rfl⟩, rfl, by simp, fun i hi => absurd hi (Nat.not_lt_zero _)⟩
  · have hlm : len ≤ m := by rw [hmm]; split <;> omega
    have hch : ∃ F : Nat → List Value × α × List AV, ∀ i, i < len → W.cells? base (a.add (i * P.cellsOf e)) (P.cellsOf e) = some (F i).1 ∧ R (F i).2.1 (F i).2.2 ∧ CellsOf W (F i).2.2 (F i).1 := by
      refine Go.Deep.choose_lt (p := fun i (F : List Value × α × List AV) => W.cells? base (a.add (i * P.cellsOf e)) (P.cellsOf e) = some F.1 ∧ R F.2.1 F.2.2 ∧ CellsOf W F.2.2 F.1) (fun i hi => ?_)
      obtain ⟨cs', h1, h2⟩ := hx i (by omega)
      have hlt : SizeOf.sizeOf (D i) < SizeOf.sizeOf (DataW.slice ((List.range len).map D) ((List.range (m - len)).map fun j => D (len + j))) := by
        have : SizeOf.sizeOf (D i) < SizeOf.sizeOf ((List.range len).map D) := List.sizeOf_lt_of_mem (List.mem_map.2 ⟨i, List.mem_range.2 hi, rfl⟩)
        simp only [DataW.slice.sizeOf_spec]; omega
      have hfit : Fits P e (D i) := fun k hk => hw k (by
        rw [DataW.weights, ht]
        refine List.mem_cons_of_mem _ (List.mem_append_left _ (weightsAll_mem hk (List.mem_map.2 ⟨i, List.mem_range.2 hi, rfl⟩))))
      obtain ⟨y, as, h3, h4⟩ := he _ _ _ hlt hfit h2
      exact ⟨⟨cs', y, as⟩, h1, h3, h4⟩
    obtain ⟨F, hF⟩ := hch
    have hget : ∀ i, i < len → ((List.range len).map fun i => wrap (F i).2.2).getD i .u = wrap (F i).2.2 := fun i hi => by simp [List.getD, hi]
    have hcell : ∀ i j, i < len → j < P.cellsOf e → W.cell? ((a.add (i * P.cellsOf e)).add j) = some ((F i).1.getD j undef) := fun i j hi hj => by
      obtain ⟨_, h2, h3⟩ := World.cells?_some (hF i hi).1
      rw [h3 j hj, List.getElem?_eq_getElem (by omega)]; simp [List.getD, h2, hj]
    have hlen : ∀ i, i < len → (F i).2.2.length = P.cellsOf e := fun i hi => by
      obtain ⟨_, h2, _⟩ := World.cells?_some (hF i hi).1
      rw [← (hF i hi).2.2.len]; exact h2
    refine ⟨.sl .no (P.cellsOf e) ((List.range len).map fun i => wrap (F i).2.2), (List.range len).map fun i => (F i).2.1, (List.range len).map fun i => wrap (F i).2.2, ?_, .inr ⟨_, rfl⟩, by simp, ?_, fun i hi => ?_⟩
    rotate_left
    · have h9 := hw ((len + (m - len)) * P.bytesOf e) (by rw [DataW.weights, ht]; simp)
      have : len * P.bytesOf e ≤ (len + (m - len)) * P.bytesOf e := Nat.mul_le_mul_right _ (by omega)
      simp; omega
    rotate_left
    · have hcl : Closed (.sl .no (P.cellsOf e) ((List.range len).map fun i => wrap (F i).2.2)) := by
        refine .sl (fun t h => by cases h) fun i hi j => ?_
        have hi' : i < len := by simpa using hi
        rw [hget i hi', hwrap _ _ (hF i hi').2.1]
        by_cases hj : j < (F i).2.2.length
        · exact (hF i hi').2.2.closed j hj
        · have : (F i).2.2.getD j .u = .u := by simp [List.getD, List.getElem?_eq_none (show (F i).2.2.length ≤ j by omega)]
          rw [this]; exact .u
      by_cases h0 : cap = 0
      · have h00 : len = 0 := by omega
        subst h0; subst h00
        exact .one (.sl0 _ _ a (fun t h => by cases h) hsz) hcl
      · -- a cell is there: the address is a place
        have hspot : a.spot = none := by
          obtain ⟨cs', h1, _⟩ := hx 0 (by rw [hmm]; simp; omega)
          obtain ⟨_, h2, h3⟩ := World.cells?_some h1
          have := h3 0 hsz
          rw [List.getElem?_eq_getElem (by omega)] at this
          simp only [Nat.zero_mul, Addr.add, if_true] at this
          unfold World.cell? at this
          split at this
          · split at this
            · cases this
            · rename_i h; simpa using h
          · cases this
        obtain ⟨b, off, spot⟩ := a
        simp only at hspot
        subst hspot
        refine .one (.sl .no _ _ b off len cap (fun i j => (F i).1.getD j undef) (by simp) hl hsz (fun h => by cases h) (fun t h => by cases h) (fun i hi => ?_) (fun i j hi hj => ?_) (fun i j hi hj => ?_)) hcl
        · rw [hget i hi, hwrap _ _ (hF i hi).2.1]; exact hlen i hi
        · have := hcell i j hi hj
          rwa [Go.Deep.add_add, Addr.add_lit, ← Nat.add_assoc] at this
        · rw [hget i hi, hwrap _ _ (hF i hi).2.1]
          exact (hF i hi).2.2.rep j (by rw [hlen i hi]; exact hj)
    · have hi' : i < len := by simpa using hi
      exact ⟨(F i).2.2, by simpa [List.getD, hi'] using (hF i hi').2.1, hget i hi'⟩
theorem read_strs {e : TypeId} (ht : P.underlying t = some (.slice e)) (he : P.underlying e = some .string) (hce : P.cellsOf e = 1) (hw : Fits P t x.1) (h : DataW.trod enc P W base (fun _ => true) held fuel t cs = some x) :
    ∃ (v : AV) (l : List (List UInt8)), CellsOf W [v] cs ∧ SlOf 1 v (l.map .str) ∧ l.length * P.bytesOf e ≤ reachBytes ∧ ∀ s ∈ l, s.length ≤ reachBytes := by
  obtain ⟨v, l, xs, h1, h2, h3, h4, h5⟩ := read_slice (α := List UInt8) (R := fun l as => as = [.str l] ∧ l.length ≤ reachBytes) ht (by omega) (fun as => as.getD 0 .u) (fun a as h => by rw [h.1]; rfl) hw h (fun n cs y _ hf hy => by
    obtain ⟨l, k1, k3, k2⟩ := read_str he hy
    rw [k3] at hf
    exact ⟨l, _, ⟨rfl, fits_str hf⟩, k1⟩)
  refine ⟨v, l, h1, ?_, h4, fun s hs => ?_⟩
  · have : xs = l.map .str := by
      apply List.ext_getElem (by simp [h3])
      intro i hi hi'
      obtain ⟨as, ⟨rfl, _⟩, k⟩ := h5 i (by omega)
      have hil : i < l.length := by omega
      have e1 : xs.getD i .u = xs[i] := by simp [List.getD, hi]
      rw [← e1, k]
      simp [List.getD, hil]
    rw [← this, ← hce]; exact h2
  · obtain ⟨i, hi, rfl⟩ := List.mem_iff_getElem.1 hs
    obtain ⟨as, ⟨_, k⟩, _⟩ := h5 i hi
    simpa [List.getD, hi] using k
end
section
variable {H : Type} {enc : TypeId × Value → H} {P : Program}
theorem trodAll_stays (hl : laidOutB P = true) {W W' : World} (hb : Below W.heap.size W W') : ∀ {ts : List TypeId} {vs : List Value} {ds : List (DataW H)} {ps : List MemPlace}, (ts.all fun t => P.readableRec t && decide (t < P.types.size)) = true →
    DataW.TrodAll enc P W 0 (fun _ => true) true ts vs ds ps → (∀ p ∈ ps, p.block < W.heap.size) → DataW.TrodAll enc P W' 0 (fun b => decide (b < W.heap.size)) true ts vs ds ps
  | [], [], [], _, _, h, _ => h
  | t :: ts, v :: vs, d :: ds, ps, hr, ⟨p, q, h1, h2, e⟩, hlt => by
    simp only [List.all_cons, Bool.and_eq_true, decide_eq_true_eq] at hr
    subst e
    exact ⟨p, q, Below.trod hl hr.1.1 hr.1.2 h1 hb (fun x hx => hlt x (by simp [hx])), trodAll_stays hl hb hr.2 h2 (fun x hx => hlt x (by simp [hx])), rfl⟩
  | [], [], _ :: _, _, _, h, _ => h.elim
  | [], _ :: _, _, _, _, h, _ => h.elim
  | _ :: _, [], _, _, _, h, _ => h.elim
  | _ :: _, _ :: _, [], _, _, h, _ => h.elim
theorem post_true (hl : laidOutB P = true) {f : Func} {s : ChangeSpec} {apart fresh handsOn : Bool} {tb : TypeId} (hres : f.resultTypes = #[tb]) (htb : P.underlying tb = some .bool) (hr : (f.params.toList.all fun t => P.readableRec t && decide (t < P.types.size)) = true) (hv : s.vars = [])
    {W W' : World} {args : Array Value} {ds : List (DataW H)} {before : List MemPlace} (hW : DataW.Whole enc P f.params.toList s.vars apart W args.toList ds [] before) (hs : s.fn H ds = { results := [.lit (.bool true)], args := ds }) (hb : Below W.heap.size W W') :
    s.post enc P f apart fresh handsOn false W args (.bool true) W' := by
  have hW' := hW
  obtain ⟨p, q, hA, hV, rfl, _, _⟩ := hW
  rw [hv] at hV
  obtain rfl : q = [] := hV
  have hlt : ∀ x ∈ p, x.block < W.heap.size := fun x hx => by simpa using hW'.lt x (by simpa using hx)
  refine ⟨ds, [], p ++ [], [], p, [], hW', ?_, ?_, ?_, hb.frame _, fun h => by cases h⟩
  · rw [List.append_nil, hs, hres]
    have hbool : ∀ (b : Nat) (sp : Nat → Bool) (hd : Bool), DataW.Trod enc P W' b sp hd tb (.bool true) (.lit (.bool true)) [] := fun b sp hd => ⟨1, by simp [DataW.trod, htb, Value.cells]⟩
    exact trodAll_cons_mk (hbool _ _ _) Go.ChangeShapes.trodAll_mk0
  · rw [List.append_nil, hs]; exact trodAll_stays hl hb hr hA hlt
  · rw [List.append_nil, hs, hv]; exact rfl
end
theorem calls_of_sound {P : Program} {G : Nat → Option (List AV)} {f : FuncId} {args : List AV} {m' : Mem} (h : CallSound P G f args m0 (.ret (.bool true)) m') {W : World} {argsV : Array Value}
    (hG : ∀ g cs, G g = some cs → Rep (cxOf W) (.sptr cs 0) (.pointer (some ⟨g, 0, none⟩))) (ha : listRep (cxOf W) args argsV.toList) : Calls P f argsV W fun e W' => e = .returned (.bool true) ∧ Below W.heap.size W W' := by
  refine (h W (cxOf W) W argsV (inv_begin hG) ha).2.mono fun e W' hp => ?_
  obtain ⟨C', _, hI, ho⟩ := hp
  refine ⟨?_, hI.below⟩
  cases e with
  | returned v => cases ho; rfl
  | _ => exact ho.elim
end Go.Proofs.YtkjokjogdehonaaGreatDoor.Am
namespace Go.Proofs.YtkjokjogdehonaaGreatDoor.Am
open Go Go.RowKit
def aggT (P : Program) (t : TypeId) : Bool :=
  match P.underlying t with
  | some (.struct _) => true
  | some (.array _ _) => true
  | _ => false
theorem not_agg_of_ok {P : Program} {W : World} {base : Nat} {t : TypeId} {v : Value} (ht : aggT P t = false) (h : Value.okWide P W .any base t v) : ∀ cs, v ≠ .agg cs := by
  rintro cs rfl
  unfold Value.okWide at h
  unfold aggT at ht
  split at h
  · simp_all
  · simp_all
  · unfold Cell.okWide at h
    split at h <;> simp_all [Cell.ok]
def layRow (g : Nat) (l : List Value) (h : Array Obj) : Array Obj := h.modify g fun
  | .cells _ t frozen => .cells l.toArray t frozen
  | o => o
def LawAt (H : Type) (enc : TypeId × Value → H) (P : Program) (G : Nat → Option (List AV)) (f : FuncId) (fn : Func) (s : ChangeSpec) : Prop :=
  ∀ (W : World) (base : Nat) (args : List Value) (ds : List (DataW H)) (p : List MemPlace), (∀ (j : Nat) t v, fn.params[j]? = some t → args[j]? = some v → Value.okWide P W .any base t v) →
    DataW.TrodAll enc P W 0 (fun _ => true) true fn.params.toList args ds p → (∀ n ∈ DataW.weightsEach P fn.params.toList ds, n ≤ reachBytes) →
    s.fn H ds = { results := [.lit (.bool true)], args := ds } ∧ ∃ avs m', CallSound P G f avs m0 (.ret (.bool true)) m' ∧ listRep (cxOf W) avs args
theorem weightsEach_append {H : Type} {P : Program} : ∀ {ts ts' : List TypeId} {l l' : List (DataW H)} {n : Nat}, n ∈ DataW.weightsEach P ts l → n ∈ DataW.weightsEach P (ts ++ ts') (l ++ l')
  | t :: ts, ts', d :: l, l', n, h => by
    simp only [List.cons_append, DataW.weightsEach, List.mem_append] at h ⊢
    exact h.imp id weightsEach_append
  | [], _, _, _, _, h => by simp [DataW.weightsEach] at h
  | _ :: _, _, [], _, _, h => by simp [DataW.weightsEach] at h
theorem law_lift {H : Type} {enc : TypeId × Value → H} {C : Checked} {os : Os} {f : FuncId} {fn : Func} {s : ChangeSpec} {F : Stop.Interp} {conds : List PathCond} {laid : List (String × DataW Unit)} {G : Nat → Option (List AV)} {tb : TypeId}
    (own : ownKnob C.prog.godebug = none) (started : os.Started) (noInit : C.prog.inits.idxOf? f = none) (hfn : C.prog.funcs[f]? = some fn) (hl : laidOutB C.prog = true) (hres : fn.resultTypes = #[tb]) (htb : C.prog.underlying tb = some .bool)
    (hr : (fn.params.toList.all fun t => C.prog.readableRec t && decide (t < C.prog.types.size)) = true) (hv : s.vars = [])
    (witness : ∃ (w : World) (tape : Tape) (i : Input), w.os = os ∧ (w.forCall tape i).Shaped C.prog ∧ i.vars = [] ∧ Input.okWide C.prog (w.forCall tape i) .any w.heap.size f i ∧
      (OpenSpec.ofChange s).preRow enc C.prog fn conds false laid (w.forCall tape i).memory i.args ∧ ({} : Assume).holds C.prog (lone (Frame.enter C.prog f i.args .normal) [] (w.forCall tape i)))
    (globs : ∀ W, laidMetH C.prog laid W → ∀ g cs, G g = some cs → Rep (cxOf W) (.sptr cs 0) (.pointer (some ⟨g, 0, none⟩)))
    (law : LawAt H enc C.prog G f fn s) :
    ReturnsInHanded {} C os f .any ((OpenSpec.ofChange s).preRow enc C.prog fn conds false laid) (((OpenSpec.ofChange s).at F).post enc C.prog fn false true false false) := by
  refine returnsInHanded_of_row (C := C) (s := OpenSpec.ofChange s) own started noInit hfn witness ?_
  intro W base args ds gs before hval hW _ _ hw hL _ _
  have hW' := hW
  obtain ⟨p, q, hA, hV, _, _, _⟩ := hW'
  have hV' : DataW.TrodVars enc C.prog W (fun _ => true) s.vars gs q := hV
  rw [hv] at hV'
  obtain ⟨rfl, rfl⟩ : gs = [] ∧ q = [] := by
    cases gs with
    | nil => exact ⟨rfl, hV'⟩
    | cons _ _ => exact hV'.elim
  have hval' : ∀ (j : Nat) t v, fn.params[j]? = some t → args.toList[j]? = some v → Value.okWide C.prog W .any base t v := fun j t v h1 h2 => hval j t v h1 (by simpa using h2)
  obtain ⟨hs, avs, m', hc, ha⟩ := law W base args.toList ds p hval' hA (fun n hn => by
    have := List.all_eq_true.1 hw n (weightsEach_append hn)
    simpa using this)
  refine (calls_of_sound hc (globs W hL) ha).mono fun e W' ⟨he, hb⟩ => ?_
  subst he
  exact ⟨_, rfl, post_true hl hres htb hr hv hW hs hb⟩
end Go.Proofs.YtkjokjogdehonaaGreatDoor.Am
