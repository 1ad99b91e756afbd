/- Parts of the proof of TopCommandsProof: RenStep RenLocal RenTree RenCall. -/
import Derived.Conc.Own4
import Derived.Calls
import Derived.Test.YtdkpbobglogmoaaGreatTk4
set_option linter.unusedVariables false
set_option linter.unusedSimpArgs false
set_option maxRecDepth 100000
set_option maxHeartbeats 32000000
namespace Go.Proofs.YtdkpbobglogmoaaGreat
open Go
namespace Ren
section
variable (P : Program) (gl fs : Nat → Bool)
def okCode : Code → Bool
  | .skip | .exit _ | .label _ | .goto _ | .ret => true
  | .region _ ops _ => ops.toList.all fun o => okOp P gl fs o.op
  | .seq a b => okCode a && okCode b
  | .cond c a b => okX gl c && okCode a && okCode b
  | .block _ c | .loop c | .scope c => okCode c
  | .rangeFunc _ _ _ _ => false
  | .refuse _ => true
def okItem : Item → Bool
  | .code c => okCode P gl fs c
  | .inBlock _ => true
  | .inLoop c | .inScope c => okCode P gl fs c
  | .inRegion ops l => l.all fun i => (ops[i]?).all fun o => okOp P gl fs o.op
  | _ => false
def okFn (fn : Func) : Bool := match fn.body with
  | some c => okCode P gl fs c
  | none => true
structure Frag (Z : Env) : Prop where
  fn : ∀ f, fs f = true → ∃ fn, P.funcs[f]? = some fn ∧ okFn P gl fs fn = true
  ext : ∀ f fn, fs f = true → P.funcs[f]? = some fn → fn.body = none → ExtOk P Z gl fn
structure FrR (R : Rel) (a b : Frame) : Prop where
  fn : a.fn = b.fn
  tmps : VsR R a.tmps b.tmps
  todo : a.todo = b.todo
  ok : ∀ x ∈ a.todo, okItem P gl fs x = true
  defers : a.defers = [] ∧ b.defers = []
  mode : a.mode = b.mode
  run : a.mode = .run ∨ a.mode = .returning
  kind : a.kind = .normal ∧ b.kind = .normal
  round : a.roundOf = none ∧ b.roundOf = none
  there : ∃ f, P.funcs[a.fn]? = some f
inductive FsR (R : Rel) : List Frame → List Frame → Prop
  | nil : FsR R [] []
  | cons {a b : Frame} {l m : List Frame} : FrR P gl fs R a b → (a.mode = .run ∧ ∃ ops i rest k, a.todo = .inRegion ops (i :: rest) :: k) → FsR R l m → FsR R (a :: l) (b :: m)
structure GoR (B : Frame) (K : List Frame) (R : Rel) (g g' : Goroutine) : Prop where
  ls : ∃ l m, g.callers = l ++ [B] ∧ g'.callers = m ++ K ∧ FsR P gl fs R l m
  top : FrR P gl fs R g.frame g'.frame
  st : g.status = .running ∧ g'.status = .running
  dy : g.dying = none ∧ g'.dying = none
  of : g.offers = none ∧ g'.offers = none
structure BackR (B : Frame) (K : List Frame) (R : Rel) (g g' : Goroutine) : Prop where
  back : ∃ v u k K', VR R v u ∧ K = k :: K' ∧ g.frame = B.finish v ∧ g.callers = [] ∧ g'.frame = k.finish u ∧ g'.callers = K'
  st : g.status = .running ∧ g'.status = .running
  dy : g.dying = none ∧ g'.dying = none
  of : g.offers = none ∧ g'.offers = none
structure Falls (B : Frame) (g : Goroutine) : Prop where
  mode : ∃ c, g.frame.mode = .panicking c
  defers : g.frame.defers = []
  ls : ∃ l, g.callers = l ++ [B] ∧ ∀ f ∈ l, f.defers = []
  st : g.status = .running
  dy : g.dying = none
  of : g.offers = none
end
section
variable {P : Program} {gl fs : Nat → Bool} {Z : Env} {R : Rel}
theorem FrR.mono {R S : Rel} (h : R.Le S) {a b : Frame} (x : FrR P gl fs R a b) : FrR P gl fs S a b := ⟨x.fn, x.tmps.mono h, x.todo, x.ok, x.defers, x.mode, x.run, x.kind, x.round, x.there⟩
theorem FsR.mono {R S : Rel} (h : R.Le S) {a b : List Frame} (x : FsR P gl fs R a b) : FsR P gl fs S a b := by
  induction x with
  | nil => exact .nil
  | cons a e _ ih => exact .cons (a.mono h) e ih
theorem FsR.defers {a b : List Frame} (x : FsR P gl fs R a b) : ∀ f ∈ a, f.defers = [] := by
  induction x with
  | nil => intro f h; cases h
  | cons a _ _ ih =>
    intro f h
    rcases List.mem_cons.1 h with rfl | h
    · exact a.defers.1
    · exact ih f h
theorem seen_alike (P : Program) (fn : FuncId) {Z : Env} {R : Rel} {c d : Array Event} (h : EsR Z R c d) : EsR Z R (seen P fn c) (seen P fn d) := by
  unfold seen
  dsimp only
  have key : ∀ (l m : List Event) (q : Bool) (a b : Array Event), l.length = m.length → (∀ (i : Nat) x y, l[i]? = some x → m[i]? = some y → EvR Z R x y) → EsR Z R a b →
      EsR Z R (l.foldl (fun (x : Bool × Array Event) e => match e.loc with
        | .mark (.extern f) => ((P.funcs[f]?).any (·.norace), x.2)
        | _ => (x.1, if x.1 && !e.sync then x.2 else x.2.push e)) (q, a)).2
       (m.foldl (fun (x : Bool × Array Event) e => match e.loc with
        | .mark (.extern f) => ((P.funcs[f]?).any (·.norace), x.2)
        | _ => (x.1, if x.1 && !e.sync then x.2 else x.2.push e)) (q, b)).2 := by
    intro l
    induction l with
    | nil =>
      intro m q a b hl _ hab
      cases m with
      | nil => exact hab
      | cons _ _ => simp at hl
    | cons x l ih =>
      intro m q a b hl hx hab
      cases m with
      | nil => simp at hl
      | cons y m =>
        have hxy := hx 0 x y rfl rfl
        have hrest : ∀ (i : Nat) x y, l[i]? = some x → m[i]? = some y → EvR Z R x y := fun i a b ea eb => hx (i + 1) a b (by simpa using ea) (by simpa using eb)
        simp only [List.foldl_cons]
        obtain ⟨lx, wx, sx⟩ := x
        obtain ⟨ly, wy, sy⟩ := y
        obtain ⟨h1, h2, h3, h4⟩ := hxy
        simp only at h1 h2 h3 h4
        subst h2 h3
        have hp : EsR Z R (a.push ⟨lx, wx, sx⟩) (b.push ⟨ly, wx, sx⟩) := hab.push ⟨h1, rfl, rfl, h4⟩
        cases h1 with
        | ext f => exact ih m _ a b (by simpa using hl) hrest hab
        | cell h => dsimp only; split <;> exact ih m _ _ _ (by simpa using hl) hrest (by first | exact hab | exact hp)
        | obj h => dsimp only; split <;> exact ih m _ _ _ (by simpa using hl) hrest (by first | exact hab | exact hp)
        | noRoom => dsimp only; split <;> exact ih m _ _ _ (by simpa using hl) hrest (by first | exact hab | exact hp)
  rw [← Array.foldl_toList, ← Array.foldl_toList]
  exact key c.toList d.toList _ #[] #[] (by simp [h.1]) (fun i x y ex ey => h.2 i x y (by simpa using ex) (by simpa using ey)) .empty
theorem FrR.rho (hgl : ∀ g, gl g = true → R g g) {a b : Frame} (h : FrR P gl fs R a b) : RhoR gl R a.eval b.eval := by
  intro x hx
  cases x with
  | tmp t =>
    show VR R (a.tmps.getD t undef) (b.tmps.getD t undef)
    rw [Array.getD_eq_getD_getElem?, Array.getD_eq_getD_getElem?]
    cases e : a.tmps[t]? with
    | none =>
      rw [h.tmps.none e]
      exact .tuple rfl fun i v w e => by simp at e
    | some v =>
      obtain ⟨u, e2, hu⟩ := h.tmps.at_ e
      rw [e2]
      exact hu
  | const v => exact okV_sound _ _ hx R
  | global g => exact .ptr ⟨hgl g hx, rfl, rfl⟩
  | func f => exact .func _ trivial rfl (fun i v w e => by simp at e) rfl (fun i v w e => by simp at e)
theorem yielded_alike {c d : Array Value} (h : VsR R c d) (ops : Array Oper) : yielded ops c = yielded ops d := by
  funext j
  unfold yielded
  cases (ops[j]?).bind (·.dst) with
  | none => rfl
  | some t =>
    simp only [Option.bind_some]
    cases e : c[t]? with
    | none => rw [h.none e]
    | some v =>
      obtain ⟨u, e2, hu⟩ := h.at_ e
      rw [e2]
      cases hu with
      | junk ho => cases u <;> first | rfl | cases ho
      | _ => rfl
theorem FrR.finish {a b : Frame} (h : FrR P gl fs R a b) {v u : Value} (hv : VR R v u) {ops : Array Oper} {i : Nat} {rest : List Nat} {k : List Item} (ht : a.todo = .inRegion ops (i :: rest) :: k) : FrR P gl fs R (a.finish v) (b.finish u) := by
  have ht' : b.todo = .inRegion ops (i :: rest) :: k := h.todo ▸ ht
  unfold Frame.finish
  rw [ht, ht']
  dsimp only
  refine ⟨h.fn, ?_, rfl, ?_, h.defers, h.mode, h.run, h.kind, h.round, h.there⟩
  · dsimp only
    split
    · exact h.tmps.set _ hv
    · exact h.tmps
  · intro x hx
    have hok := h.ok
    rw [ht] at hok
    rcases List.mem_cons.1 hx with rfl | hx
    · have := hok (.inRegion ops (i :: rest)) (by simp)
      simp only [okItem, List.all_cons, Bool.and_eq_true] at this ⊢
      exact this.2
    · exact hok x (by simp [hx])
theorem VR.undef : VR R undef undef := .tuple rfl fun i v w e => by simp at e
variable (P gl fs Z) in
def Like (B : Frame) (K : List Frame) (R : Rel) (w w' : World) (s s' : GStep) : Prop :=
  match s with
  | .go g1 w1 es => (∃ R1 g1' w1' es', s' = .go g1' w1' es' ∧ Turn Z R R1 w w' w1 w1' ∧ EsR Z R1 es es' ∧ (GoR P gl fs B K R1 g1 g1' ∨ BackR B K R1 g1 g1')) ∨ Falls B g1
  | .ended _ _ _ => True
  | _ => False
theorem like_stay {B : Frame} {K : List Frame} {g1 g1' : Goroutine} {w w' : World} (hw : WR Z R w w') (h : GoR P gl fs B K R g1 g1') : Like P gl fs Z B K R w w' (.go g1 w) (.go g1' w') :=
  .inl ⟨R, g1', w', #[], rfl, .refl hw, .empty, .inl h⟩
def gor (fr : Frame) (cs : List Frame) : Goroutine := { frame := fr, callers := cs, status := .running, dying := none }
theorem GoR.todo {B : Frame} {K : List Frame} {fr fr' : Frame} {cs cs' : List Frame} (hl : ∃ l m, cs = l ++ [B] ∧ cs' = m ++ K ∧ FsR P gl fs R l m) (h : FrR P gl fs R fr fr') (hr : fr.mode = .run) {t : List Item} (ht : ∀ x ∈ t, okItem P gl fs x = true) :
    GoR P gl fs B K R (gor { fr with todo := t } cs) (gor { fr' with todo := t } cs') :=
  ⟨hl, ⟨h.fn, h.tmps, rfl, ht, h.defers, h.mode, h.run, h.kind, h.round, h.there⟩, ⟨rfl, rfl⟩, ⟨rfl, rfl⟩, ⟨rfl, rfl⟩⟩
theorem ls_mono {R S : Rel} (h : R.Le S) {B : Frame} {K : List Frame} {cs cs' : List Frame} (hl : ∃ l m, cs = l ++ [B] ∧ cs' = m ++ K ∧ FsR P gl fs R l m) : ∃ l m, cs = l ++ [B] ∧ cs' = m ++ K ∧ FsR P gl fs S l m := by
  obtain ⟨l, m, e1, e2, h3⟩ := hl
  exact ⟨l, m, e1, e2, h3.mono h⟩
theorem apply_like {B : Frame} {K : List Frame} {fr fr' : Frame} {cs cs' : List Frame} {w w' : World} (HF : Frag P gl fs Z)
    (hl : ∃ l m, cs = l ++ [B] ∧ cs' = m ++ K ∧ FsR P gl fs R l m) (h : FrR P gl fs R fr fr') (hr : fr.mode = .run) {ops : Array Oper} {i : Nat} {rest : List Nat} {k : List Item} (ht : fr.todo = .inRegion ops (i :: rest) :: k)
    (hw : WR Z R w w') {s s' : Sem Next} (hs : SimS P Z (NR fs) R s s') : Like P gl fs Z B K R w w' (stepG.apply P true fr cs none s w) (stepG.apply P true fr' cs' none s' w') := by
  have ht' : fr'.todo = .inRegion ops (i :: rest) :: k := h.todo ▸ ht
  have hk1 : (fr.kind == CallKind.early) = false := by rw [h.kind.1]; rfl
  have hk2 : (fr'.kind == CallKind.early) = false := by rw [h.kind.2]; rfl
  have := hs.met R (.refl _) w w' #[] #[] hw .empty
  unfold stepG.apply
  simp only [if_true]
  rw [ht, ht', hk1, hk2]
  simp only [Bool.false_eq_true, if_false]
  revert this
  rcases s.runT P w #[] with ⟨r, es⟩
  cases r with
  | ok x w1 =>
    rintro ⟨R1, y, w1', es', e, t, hxy, he⟩
    rw [e]
    cases hxy with
    | value hv =>
      refine .inl ⟨R1, gor (fr'.finish _) cs', w1', _, rfl, t, ?_, .inl ⟨ls_mono t.le hl, (h.mono t.le).finish hv ht, ⟨rfl, rfl⟩, ⟨rfl, rfl⟩, ⟨rfl, rfl⟩⟩⟩
      simp only [GStep.after]
      rw [← h.fn]
      simpa using seen_alike P fr.fn he
    | skip =>
      refine .inl ⟨R1, gor (fr'.finish _) cs', w1', _, rfl, t, ?_, .inl ⟨ls_mono t.le hl, (h.mono t.le).finish .undef ht, ⟨rfl, rfl⟩, ⟨rfl, rfl⟩, ⟨rfl, rfl⟩⟩⟩
      simp only [GStep.after]
      rw [← h.fn]
      simpa using seen_alike P fr.fn he
    | enter f hf hcd =>
      obtain ⟨l, m, e1, e2, hlm⟩ := hl
      obtain ⟨fn, hfn, hok⟩ := HF.fn f hf
      refine .inl ⟨R1, gor (Frame.enter P f _ .normal) (fr' :: cs'), w1', _, rfl, t, ?_, .inl ⟨⟨fr :: l, fr' :: m, by rw [e1]; rfl, by rw [e2]; rfl, .cons (h.mono t.le) ⟨hr, ops, i, rest, k, ht⟩ (hlm.mono t.le)⟩, ?_, ⟨rfl, rfl⟩, ⟨rfl, rfl⟩, ⟨rfl, rfl⟩⟩⟩
      · simp only [GStep.after]
        rw [← h.fn]
        simpa using seen_alike P fr.fn he
      · unfold Frame.enter
        rw [hfn]
        refine ⟨rfl, ?_, rfl, ?_, ⟨rfl, rfl⟩, rfl, .inl rfl, ⟨rfl, rfl⟩, ⟨rfl, rfl⟩, ⟨fn, hfn⟩⟩
        · dsimp only
          rw [hcd.1]
          refine hcd.append ⟨rfl, fun i v w e f => ?_⟩
          rw [e] at f
          cases f
          obtain rfl : v = undef := by
            simp only [Array.getElem?_replicate] at e
            split at e
            · cases e; rfl
            · cases e
          exact .undef
        · intro x hx
          unfold okFn at hok
          split at hok
          · rename_i c hc
            simp only [Option.bind_some, hc, Option.getD_some, List.mem_singleton] at hx
            subst hx
            exact hok
          · rename_i hc
            simp only [Option.bind_some, hc, Option.getD_none, List.mem_singleton] at hx
            subst hx
            rfl
  | halt hh w1 =>
    cases hh with
    | panic v =>
      rintro ⟨R1, v', w1', es', e, t, hv, he⟩
      refine .inr ?_
      obtain ⟨l, m, e1, e2, hlm⟩ := hl
      have e3 : fr.raise [{ v, recovered := false }] = { fr with mode := .panicking [{ v, recovered := false }] } := by unfold Frame.raise; rw [hr]
      exact ⟨⟨[{ v, recovered := false }], by dsimp only; rw [e3]⟩, by dsimp only; rw [e3]; exact h.defers.1, ⟨l, e1, hlm.defers⟩, rfl, rfl, rfl⟩
    | unsupported u =>
      intro hd
      cases u with
      | initOrder g => exact hd.elim
      | _ => exact trivial
    | stuck m => intro _; exact trivial
    | _ => intro hd; exact hd.elim
theorem exitTo_ok {id : Nat} : ∀ {k k' : List Item}, exitTo id k = some k' → (∀ x ∈ k, okItem P gl fs x = true) → ∀ x ∈ k', okItem P gl fs x = true
  | [], k', h, _ => by cases h
  | y :: k, k', h, hk => by
    cases y <;> simp only [exitTo] at h <;> first
      | exact exitTo_ok h fun x hx => hk x (by simp [hx])
      | (split at h
         · cases h; exact fun x hx => hk x (by simp [hx])
         · exact exitTo_ok h fun x hx => hk x (by simp [hx]))
theorem findLabel_ok : ∀ {c : Code} {l : Nat} {r : Code}, findLabel c l = some r → okCode P gl fs c = true → okCode P gl fs r = true
  | .seq a b, l, r, h, hc => by
    simp only [okCode, Bool.and_eq_true] at hc
    unfold findLabel at h
    split at h
    · rename_i x e
      cases h
      simp only [okCode, Bool.and_eq_true]
      exact ⟨findLabel_ok e hc.1, hc.2⟩
    · exact findLabel_ok h hc.2
  | .label l', l, r, h, hc => by
    unfold findLabel at h
    split at h
    · cases h; rfl
    · cases h
  | .skip, l, r, h, hc => by cases h
  | .region .., l, r, h, hc => by cases h
  | .cond .., l, r, h, hc => by cases h
  | .block .., l, r, h, hc => by cases h
  | .loop _, l, r, h, hc => by cases h
  | .rangeFunc .., l, r, h, hc => by cases h
  | .exit _, l, r, h, hc => by cases h
  | .scope _, l, r, h, hc => by cases h
  | .goto _, l, r, h, hc => by cases h
  | .ret, l, r, h, hc => by cases h
  | .refuse _, l, r, h, hc => by cases h
theorem gotoIn_ok {l : Nat} : ∀ {k k' : List Item}, gotoIn l k = some k' → (∀ x ∈ k, okItem P gl fs x = true) → ∀ x ∈ k', okItem P gl fs x = true
  | [], k', h, _ => by cases h
  | y :: k, k', h, hk => by
    cases y <;> simp only [gotoIn] at h <;> first
      | exact gotoIn_ok h fun x hx => hk x (by simp [hx])
      | (split at h
         · rename_i body r e
           cases h
           have hb := hk _ (List.mem_cons_self ..)
           have hr : okCode P gl fs r = true := findLabel_ok e hb
           intro x hx
           rcases List.mem_cons.1 hx with rfl | hx
           · exact hr
           · exact hk x hx
         · exact gotoIn_ok h fun x hx => hk x (by simp [hx]))
theorem exec_like {main : Bool} {B : Frame} {K : List Frame} {fr fr' : Frame} {cs cs' : List Frame} {w w' : World} (hg : P.globals.size ≤ Z.glob) (HF : Frag P gl fs Z) (hgl : ∀ g, gl g = true → R g g)
    (hl : ∃ l m, cs = l ++ [B] ∧ cs' = m ++ K ∧ FsR P gl fs R l m) (h : FrR P gl fs R fr fr') (hr : fr.mode = .run) (hw : WR Z R w w') : Like P gl fs Z B K R w w' (stepG.exec P true true fr cs none w) (stepG.exec P main true fr' cs' none w') := by
  obtain ⟨f1, t1, td, d1, m1, k1, r1⟩ := fr
  obtain ⟨f2, t2, td2, d2, m2, k2, r2⟩ := fr'
  have h' := h
  obtain ⟨q1, q2, q3, q4, ⟨q5, q6⟩, q7, q8, ⟨q9, q10⟩, ⟨q11, q12⟩, q13⟩ := h'
  simp only at hr q1 q3 q5 q6 q7 q9 q10 q11 q12
  subst hr q1 q3 q5 q6 q7 q9 q10 q11 q12
  clear q2 q4 q8
  have hlv : ∀ (k : List Item), (∀ x ∈ k, okItem P gl fs x = true) → Like P gl fs Z B K R w w' (.go (gor ⟨f1, t1, k, [], .returning, .normal, none⟩ cs) w) (.go (gor ⟨f1, t2, k, [], .returning, .normal, none⟩ cs') w') := fun k hk =>
    like_stay hw ⟨hl, ⟨rfl, h.tmps, rfl, hk, ⟨rfl, rfl⟩, rfl, .inr rfl, ⟨rfl, rfl⟩, ⟨rfl, rfl⟩, h.there⟩, ⟨rfl, rfl⟩, ⟨rfl, rfl⟩, ⟨rfl, rfl⟩⟩
  have hr : (⟨f1, t1, td, [], .run, .normal, none⟩ : Frame).mode = .run := rfl
  cases td with
  | nil =>
    exact hlv [] fun x hx => by cases hx
  | cons it k =>
    have ht : (⟨f1, t1, it :: k, [], .run, .normal, none⟩ : Frame).todo = it :: k := rfl
    have ht' : (⟨f1, t2, it :: k, [], .run, .normal, none⟩ : Frame).todo = it :: k := rfl
    have hok := h.ok
    simp only at hok
    have hit := hok it (by simp)
    have hk : ∀ x ∈ k, okItem P gl fs x = true := fun x hx => hok x (by simp [hx])
    have to : ∀ (t : List Item), (∀ x ∈ t, okItem P gl fs x = true) → Like P gl fs Z B K R w w' (.go (gor ⟨f1, t1, t, [], .run, .normal, none⟩ cs) w) (.go (gor ⟨f1, t2, t, [], .run, .normal, none⟩ cs') w') := fun t htok => like_stay hw (GoR.todo hl h hr htok)
    cases it with
    | inBlock id => exact to _ hk
    | inScope b => exact to _ hk
    | inLoop b =>
      refine to _ fun x hx => ?_
      rcases List.mem_cons.1 hx with rfl | hx
      · exact hit
      · rcases List.mem_cons.1 hx with rfl | hx
        · exact hit
        · exact hk x hx
    | inRegion ops todo =>
      cases todo with
      | nil => exact to _ hk
      | cons i rest =>
        unfold stepG.exec
        have hy : yielded ops t2 = yielded ops t1 := (yielded_alike h.tmps ops).symm
        simp only [hy]
        split
        · rename_i hwant
          have hop : ∃ o, ops[i]? = some o := by
            cases e : ops[i]? with
            | none => rw [e] at hwant; cases hwant
            | some o => exact ⟨o, rfl⟩
          obtain ⟨o, ho⟩ := hop
          have hoo : okOp P gl fs o.op = true := by
            simp only [okItem, List.all_cons, Bool.and_eq_true, ho, Option.all_some] at hit
            exact hit.1
          have key := apply_like (B := B) (K := K) HF hl h hr ht hw (sim_execOp hg HF.ext hgl (h.rho hgl) (fun _ => rfl) (fun _ => rfl) (fun _ => rfl) (o := o) hoo)
          unfold stepG.oper
          simp only [Frame.oper?, ho]
          exact key
        · exact like_stay hw ⟨hl, h.finish .undef ht, ⟨rfl, rfl⟩, ⟨rfl, rfl⟩, ⟨rfl, rfl⟩⟩
    | code c =>
      cases c with
      | skip => exact to _ hk
      | label l => exact to _ hk
      | ret => exact hlv _ hok
      | seq a b =>
        have hab : okCode P gl fs (.seq a b) = true := hit
        simp only [okCode, Bool.and_eq_true] at hab
        refine to _ fun x hx => ?_
        rcases List.mem_cons.1 hx with rfl | hx
        · exact hab.1
        · rcases List.mem_cons.1 hx with rfl | hx
          · exact hab.2
          · exact hk x hx
      | cond x a b =>
        have hab : okCode P gl fs (.cond x a b) = true := hit
        simp only [okCode, Bool.and_eq_true] at hab
        have hv := h.rho hgl x hab.1.1
        unfold stepG.exec; simp only
        revert hv
        generalize Frame.eval _ x = v
        generalize Frame.eval _ x = u
        intro hv
        cases hv with
        | bool g =>
          refine to _ fun y hy => ?_
          rcases List.mem_cons.1 hy with rfl | hy
          · cases g
            · exact hab.2
            · exact hab.1.2
          · exact hk y hy
        | _ => exact trivial
      | block id b =>
        refine to _ fun x hx => ?_
        rcases List.mem_cons.1 hx with rfl | hx
        · exact hit
        · rcases List.mem_cons.1 hx with rfl | hx
          · rfl
          · exact hk x hx
      | loop b =>
        refine to _ fun x hx => ?_
        rcases List.mem_cons.1 hx with rfl | hx
        · exact hit
        · rcases List.mem_cons.1 hx with rfl | hx
          · exact hit
          · exact hk x hx
      | scope b =>
        refine to _ fun x hx => ?_
        rcases List.mem_cons.1 hx with rfl | hx
        · exact hit
        · rcases List.mem_cons.1 hx with rfl | hx
          · exact hit
          · exact hk x hx
      | exit id =>
        unfold stepG.exec
        simp only
        cases e : exitTo id k with
        | none => exact trivial
        | some k' => exact to _ (exitTo_ok e hk)
      | goto l =>
        unfold stepG.exec
        simp only
        cases e : gotoIn l k with
        | none => exact trivial
        | some k' => exact to _ (gotoIn_ok e hk)
      | rangeFunc f p a b => cases hit
      | refuse m => unfold stepG.exec; exact trivial
      | region id ops draw =>
        unfold stepG.exec; simp only
        have hir : ∀ l, okItem P gl fs (.inRegion ops l) = true := fun l => by
          simp only [okItem, List.all_eq_true]
          intro i _
          cases e : ops[i]? with
          | none => rfl
          | some o => exact List.all_eq_true.1 hit o (by simp; exact Array.mem_of_getElem? e)
        cases draw with
        | false =>
          refine to _ fun x hx => ?_
          rcases List.mem_cons.1 hx with rfl | hx
          · exact hir _
          · exact hk x hx
        | true =>
          have hq : (Question.order f1 id).forced = false := rfl
          simp only [Bool.not_true, Bool.false_eq_true, if_false, Go.choose, Sem.run, hq]
          rw [← hw.tape, ← hw.drawn]
          refine .inl ⟨R, gor ⟨f1, t2, _, [], .run, .normal, none⟩ cs', { w' with tape := w.tape, drawn := w.drawn + 1 }, #[], rfl, ?_, .empty, .inl (GoR.todo hl h hr fun x hx => ?_)⟩
          · exact ⟨.refl _, fun _ _ x => .inl x, ⟨hw.fn, hw.inj, hw.obj, hw.ice, rfl, rfl, hw.glob, hw.big, hw.big'⟩, Nat.le_refl _, Nat.le_refl _, fun _ _ _ => rfl, fun _ _ _ _ => rfl, fun _ h1 h2 => absurd h2 (by dsimp only; omega), hw.tape, rfl, rfl⟩
          · rcases List.mem_cons.1 hx with rfl | hx
            · exact hir _
            · exact hk x hx
    | _ => cases hit
theorem sim_results (fn : Func) {c d : Array Value} (h : VsR R c d) : SimS P Z VR R (results fn c) (results fn d) := by
  unfold results
  have key : ∀ (l : List ResultVar) {R1 : Rel}, R.Le R1 → SimS P Z VLs R1 (l.mapM fun
      | .tmp t => pure (c.getD t undef)
      | .cell a t => do loadVar t (← asAddr (c.getD a undef))) (l.mapM fun
      | .tmp t => pure (d.getD t undef)
      | .cell a t => do loadVar t (← asAddr (d.getD a undef))) := by
    intro l
    have hget : ∀ t, VR R (c.getD t undef) (d.getD t undef) := fun t => by
      rw [Array.getD_eq_getD_getElem?, Array.getD_eq_getD_getElem?]
      cases e : c[t]? with
      | none => rw [h.none e]; exact .undef
      | some v =>
        obtain ⟨u, e2, hu⟩ := h.at_ e
        rw [e2]
        exact hu
    induction l with
    | nil => intro R1 r1; exact sim_pure fun _ _ => .nil
    | cons x l ih =>
      intro R1 r1
      rw [List.mapM_cons, List.mapM_cons]
      refine sim_bind (A := VR) ?_ fun R2 r2 v u hv => sim_bind (ih (r1.trans r2)) fun R3 r3 vs us hvs => sim_pure fun R4 r4 => .cons ((hv.mono r3).mono r4) (hvs.mono r4)
      cases x with
      | tmp t => exact sim_pure fun R2 r2 => ((hget t).mono r1).mono r2
      | cell a t => exact sim_bind (sim_asAddr ((hget a).mono r1)) fun R2 r2 x y hxy => sim_loadVar t hxy
  rw [Array.mapM_eq_mapM_toList, Array.mapM_eq_mapM_toList]
  refine sim_bind (A := VsR) (sim_bind (key _ (.refl _)) fun R1 r1 l m hlm => sim_pure fun R2 r2 => (hlm.mono r2).array) fun R1 r1 vs us hv => sim_pure fun R2 r2 => ?_
  have e := hv.1
  by_cases h1 : vs.size = 1
  · rw [dif_pos h1, dif_pos (e ▸ h1)]
    exact (hv.2 0 _ _ (Array.getElem?_eq_getElem (by omega)) (Array.getElem?_eq_getElem (by omega))).mono r2
  · rw [dif_neg h1, dif_neg (e ▸ h1)]
    exact .tuple e (hv.mono r2).2
theorem ret_like {main : Bool} {B : Frame} {K : List Frame} {fr fr' : Frame} {cs cs' : List Frame} {w w' : World} (hK : K ≠ [])
    (hl : ∃ l m, cs = l ++ [B] ∧ cs' = m ++ K ∧ FsR P gl fs R l m) (h : FrR P gl fs R fr fr') (hr : fr.mode = .returning) (hw : WR Z R w w') :
    Like P gl fs Z B K R w w' (unwind P true fr cs none w) (unwind P main fr' cs' none w') := by
  obtain ⟨fn, hfn⟩ := h.there
  obtain ⟨f1, t1, td, d1, m1, k1, r1⟩ := fr
  obtain ⟨f2, t2, td2, d2, m2, k2, r2⟩ := fr'
  have h' := h
  obtain ⟨q1, q2, q3, q4, ⟨q5, q6⟩, q7, q8, ⟨q9, q10⟩, ⟨q11, q12⟩, q13⟩ := h'
  simp only at hr q1 q3 q5 q6 q7 q9 q10 q11 q12 hfn
  subst hr q1 q3 q5 q6 q7 q9 q10 q11 q12
  clear q2 q4 q8
  unfold unwind
  simp only [hfn]
  have := (sim_results (P := P) (Z := Z) fn h.tmps).met R (.refl _) w w' #[] #[] hw .empty
  revert this
  rcases (results fn t1).runT P w #[] with ⟨r, es⟩
  cases r with
  | ok v w1 =>
    rintro ⟨R1, u, w1', es1', e, t, hv, he⟩
    rw [e]
    obtain ⟨l, m, rfl, rfl, hlm⟩ := hl
    cases hlm with
    | nil =>
      cases K with
      | nil => exact absurd rfl hK
      | cons k K' =>
        simp only [doReturn, List.nil_append, GStep.after]
        exact .inl ⟨R1, gor (k.finish u) K', w1', _, rfl, t, by simpa using seen_alike P f1 he, .inr ⟨⟨v, u, k, K', hv, rfl, rfl, rfl, rfl, rfl⟩, ⟨rfl, rfl⟩, ⟨rfl, rfl⟩, ⟨rfl, rfl⟩⟩⟩
    | @cons a b l m hab hreg hlm =>
      simp only [doReturn, List.cons_append, GStep.after]
      obtain ⟨hm, ops, i, rest, k, ht⟩ := hreg
      exact .inl ⟨R1, gor (b.finish u) (m ++ K), w1', _, rfl, t, by simpa using seen_alike P f1 he, .inl ⟨⟨l, m, rfl, rfl, hlm.mono t.le⟩, (hab.mono t.le).finish hv ht, ⟨rfl, rfl⟩, ⟨rfl, rfl⟩, ⟨rfl, rfl⟩⟩⟩
  | halt hh w1 =>
    cases hh with
    | panic v =>
      rintro ⟨R1, v', w1', es1', e, t, hv, he⟩
      exact trivial
    | stuck m => intro _; exact trivial
    | unsupported u => intro _; exact trivial
    | _ => intro hd; exact hd.elim
theorem step_like {main : Bool} {B : Frame} {K : List Frame} {g g' : Goroutine} {w w' : World} (hg : P.globals.size ≤ Z.glob) (HF : Frag P gl fs Z) (hgl : ∀ g, gl g = true → R g g) (hK : K ≠ [])
    (h : GoR P gl fs B K R g g') (hw : WR Z R w w') : Like P gl fs Z B K R w w' (stepG P true g w) (stepG P main g' w') := by
  obtain ⟨fr, cs, st, dy, off⟩ := g
  obtain ⟨fr', cs', st', dy', off'⟩ := g'
  obtain ⟨hl, ht, ⟨h1, h2⟩, ⟨h3, h4⟩, _⟩ := h
  simp only at h1 h2 h3 h4 hl ht
  subst h1 h2 h3 h4
  rcases ht.run with hr | hr
  · have hr' : fr'.mode = .run := ht.mode ▸ hr
    have key := exec_like (main := main) (B := B) (K := K) hg HF hgl hl ht hr hw
    unfold stepG
    simp only [hr, hr']
    exact key
  · have hr' : fr'.mode = .returning := ht.mode ▸ hr
    have key := ret_like (main := main) (B := B) (K := K) hK hl ht hr hw
    unfold stepG
    simp only [hr, hr']
    exact key
end
end Ren
end Go.Proofs.YtdkpbobglogmoaaGreat
namespace Go.Proofs.YtdkpbobglogmoaaGreat
open Go
namespace Ren
def GLcl (F : World → GStep) (w : World) : Prop :=
  match F w with
  | .go g1 w1 es => ∃ c, w1.tape = w.tape ∧ w1.drawn = w.drawn + c ∧ ∀ τ d, Agree w c τ d → F (w.re τ d) = .go g1 (w1.re τ (d + c)) es
  | .ended _ _ _ => ∃ c, ∀ τ d, Agree w c τ d → ∃ o w2 es2, F (w.re τ d) = .ended o w2 es2
  | _ => False
section
variable {P : Program} {gl fs : Nat → Bool} {Z : Env} {R : Rel}
theorem apply_lcl {fr fr' : Frame} {cs : List Frame} {w w' : World} (hk : fr.kind = .normal) {ops : Array Oper} {i : Nat} {rest : List Nat} {k : List Item} (ht : fr.todo = .inRegion ops (i :: rest) :: k)
    (hw : WR Z R w w') {s s' : Sem Next} (hs : SimS P Z (NR fs) R s s') : GLcl (fun w => stepG.apply P true fr cs none s w) w := by
  have hk1 : (fr.kind == CallKind.early) = false := by rw [hk]; rfl
  have hl := hs.lcl R (.refl _) w w' #[] #[] hw .empty
  have hm := hs.met R (.refl _) w w' #[] #[] hw .empty
  unfold GLcl stepG.apply
  unfold Lcl at hl
  simp only [if_true]
  rw [ht, hk1]
  simp only [Bool.false_eq_true, if_false]
  revert hl hm
  rcases s.runT P w #[] with ⟨r, es⟩
  cases r with
  | ok x w1 =>
    rintro ⟨c, h1, h2, h3⟩ ⟨R1, y, w1', es1', e, t, hxy, he⟩
    cases hxy with
    | value hv => exact ⟨c, h1, h2, fun τ d g => by rw [h3 τ d g]; rfl⟩
    | skip => exact ⟨c, h1, h2, fun τ d g => by rw [h3 τ d g]; rfl⟩
    | enter f hf hcd => exact ⟨c, h1, h2, fun τ d g => by rw [h3 τ d g]; rfl⟩
  | halt hh w1 =>
    cases hh with
    | panic v =>
      rintro ⟨c, h1, h2, h3⟩ _
      exact ⟨c, h1, h2, fun τ d g => by rw [h3 τ d g]; rfl⟩
    | stuck m =>
      rintro ⟨c, h3⟩ _
      refine ⟨c, fun τ d g => ?_⟩
      obtain ⟨h, w2, es2, e, hd⟩ := h3 τ d g
      rw [e]
      cases h with
      | stuck m => exact ⟨_, _, _, rfl⟩
      | unsupported u =>
        cases u with
        | initOrder g => exact hd.elim
        | _ => exact ⟨_, _, _, rfl⟩
      | _ => exact hd.elim
    | unsupported u =>
      rintro ⟨c, h3⟩ hd0
      have hgo : ∃ c, ∀ τ d, Agree w c τ d → ∃ o w2 es2, (GStep.after (seen P fr.fn (match (s.runT P (w.re τ d) #[]).1 with | .halt .blocked _ | .halt .waiting _ | .halt (.unsupported (.initOrder _)) _ => #[] | _ => (s.runT P (w.re τ d) #[]).2)) (.ended default default)) = .ended o w2 es2 := ⟨0, fun _ _ _ => ⟨_, _, _, rfl⟩⟩
      clear hgo
      cases u with
      | initOrder g => exact hd0.elim
      | _ =>
        refine ⟨c, fun τ d g => ?_⟩
        obtain ⟨h, w2, es2, e, hd⟩ := h3 τ d g
        rw [e]
        cases h with
        | stuck m => exact ⟨_, _, _, rfl⟩
        | unsupported u =>
          cases u with
          | initOrder g => exact hd.elim
          | _ => exact ⟨_, _, _, rfl⟩
        | _ => exact hd.elim
    | _ => intro _ hd; exact hd.elim
theorem exec_lcl {fr fr' : Frame} {cs : List Frame} {w w' : World} (hg : P.globals.size ≤ Z.glob) (HF : Frag P gl fs Z) (hgl : ∀ g, gl g = true → R g g)
    (h : FrR P gl fs R fr fr') (hr : fr.mode = .run) (hw : WR Z R w w') : GLcl (fun w => stepG.exec P true true fr cs none w) w := by
  obtain ⟨f1, t1, td, d1, m1, k1, r1⟩ := fr
  obtain ⟨f2, t2, td2, d2, m2, k2, r2⟩ := fr'
  have h' := h
  obtain ⟨q1, q2, q3, q4, ⟨q5, q6⟩, q7, q8, ⟨q9, q10⟩, ⟨q11, q12⟩, q13⟩ := h'
  simp only at hr q1 q3 q5 q6 q7 q9 q10 q11 q12
  subst hr q1 q3 q5 q6 q7 q9 q10 q11 q12
  clear q2 q4 q8
  have same : ∀ {F : World → GStep} {G : Goroutine}, (∀ w, F w = .go G w) → GLcl F w := fun {F G} hF => by
    unfold GLcl
    rw [hF]
    exact ⟨0, rfl, rfl, fun τ d _ => hF _⟩
  have over : ∀ {F : World → GStep}, (∀ w, ∃ o w2 es2, F w = .ended o w2 es2) → GLcl F w := fun {F} hF => by
    obtain ⟨o, w2, es2, e⟩ := hF w
    unfold GLcl
    rw [e]
    exact ⟨0, fun τ d _ => hF _⟩
  cases td with
  | nil => exact same (G := gor ⟨f1, t1, [], [], .returning, .normal, none⟩ cs) fun w => rfl
  | cons it k =>
    have hok := h.ok
    simp only at hok
    have hit := hok it (by simp)
    cases it with
    | inBlock id => exact same (G := gor ⟨f1, t1, _, [], .run, .normal, none⟩ cs) fun w => rfl
    | inScope b => exact same (G := gor ⟨f1, t1, _, [], .run, .normal, none⟩ cs) fun w => rfl
    | inLoop b => exact same (G := gor ⟨f1, t1, _, [], .run, .normal, none⟩ cs) fun w => rfl
    | inRegion ops todo =>
      cases todo with
      | nil => exact same (G := gor ⟨f1, t1, _, [], .run, .normal, none⟩ cs) fun w => rfl
      | cons i rest =>
        by_cases hwant : ((ops[i]?).map (Region.wanted · (yielded ops t1))).getD false = true
        · have hop : ∃ o, ops[i]? = some o := by
            cases e : ops[i]? with
            | none => rw [e] at hwant; cases hwant
            | some o => exact ⟨o, rfl⟩
          obtain ⟨o, ho⟩ := hop
          have hoo : okOp P gl fs o.op = true := by
            simp only [okItem, List.all_cons, Bool.and_eq_true, ho, Option.all_some] at hit
            exact hit.1
          have key := apply_lcl (P := P) (cs := cs) (fr := ⟨f1, t1, .inRegion ops (i :: rest) :: k, [], .run, .normal, none⟩) (fr' := ⟨f1, t2, .inRegion ops (i :: rest) :: k, [], .run, .normal, none⟩) rfl rfl hw (sim_execOp hg HF.ext hgl (h.rho hgl) (fun _ => rfl) (fun _ => rfl) (fun _ => rfl) (o := o) hoo)
          have e : (fun w => stepG.exec P true true ⟨f1, t1, .inRegion ops (i :: rest) :: k, [], .run, .normal, none⟩ cs none w) = fun w => stepG.apply P true ⟨f1, t1, .inRegion ops (i :: rest) :: k, [], .run, .normal, none⟩ cs none (execOp (Frame.eval ⟨f1, t1, .inRegion ops (i :: rest) :: k, [], .run, .normal, none⟩) o) w := by
            funext w
            unfold stepG.exec
            simp only [hwant, if_true]
            unfold stepG.oper
            simp only [Frame.oper?, ho]
          rw [e]
          exact key
        · refine same (G := gor (Frame.finish ⟨f1, t1, .inRegion ops (i :: rest) :: k, [], .run, .normal, none⟩ undef) cs) fun w => ?_
          unfold stepG.exec
          simp only [hwant]
          rfl
    | code c =>
      cases c with
      | skip => exact same (G := gor ⟨f1, t1, _, [], .run, .normal, none⟩ cs) fun w => rfl
      | label l => exact same (G := gor ⟨f1, t1, _, [], .run, .normal, none⟩ cs) fun w => rfl
      | ret => exact same (G := gor ⟨f1, t1, _, [], .returning, .normal, none⟩ cs) fun w => rfl
      | seq a b => exact same (G := gor ⟨f1, t1, _, [], .run, .normal, none⟩ cs) fun w => rfl
      | block id b => exact same (G := gor ⟨f1, t1, _, [], .run, .normal, none⟩ cs) fun w => rfl
      | loop b => exact same (G := gor ⟨f1, t1, _, [], .run, .normal, none⟩ cs) fun w => rfl
      | scope b => exact same (G := gor ⟨f1, t1, _, [], .run, .normal, none⟩ cs) fun w => rfl
      | cond x a b =>
        cases hx : Frame.eval ⟨f1, t1, .code (.cond x a b) :: k, [], .run, .normal, none⟩ x with
        | bool g =>
          refine same (G := gor ⟨f1, t1, .code (if g then a else b) :: k, [], .run, .normal, none⟩ cs) fun w => ?_
          unfold stepG.exec
          simp only [hx]
          rfl
        | _ =>
          refine over fun w => ?_
          unfold stepG.exec
          simp only [hx]
          exact ⟨_, _, _, rfl⟩
      | exit id =>
        cases e : exitTo id k with
        | none =>
          refine over fun w => ?_
          unfold stepG.exec
          simp only [e]
          exact ⟨_, _, _, rfl⟩
        | some k' =>
          refine same (G := gor ⟨f1, t1, k', [], .run, .normal, none⟩ cs) fun w => ?_
          unfold stepG.exec
          simp only [e]
          rfl
      | goto l =>
        cases e : gotoIn l k with
        | none =>
          refine over fun w => ?_
          unfold stepG.exec
          simp only [e]
          exact ⟨_, _, _, rfl⟩
        | some k' =>
          refine same (G := gor ⟨f1, t1, k', [], .run, .normal, none⟩ cs) fun w => ?_
          unfold stepG.exec
          simp only [e]
          rfl
      | rangeFunc f p a b => cases hit
      | refuse m =>
        refine over fun w => ?_
        unfold stepG.exec
        exact ⟨_, _, _, rfl⟩
      | region id ops draw =>
        cases draw with
        | false => exact same (G := gor ⟨f1, t1, _, [], .run, .normal, none⟩ cs) fun w => rfl
        | true =>
          have hq : (Question.order f1 id).forced = false := rfl
          have e : ∀ w, stepG.exec P true true ⟨f1, t1, .code (.region id ops true) :: k, [], .run, .normal, none⟩ cs none w = .go (gor ⟨f1, t1, .inRegion ops (Region.schedule (P.follows .mixedOrders) ops ((Question.order f1 id).cut (w.tape w.drawn (.order f1 id)))) :: k, [], .run, .normal, none⟩ cs) { w with drawn := w.drawn + 1 } := fun w => by
            unfold stepG.exec
            simp only [Bool.not_true, Bool.false_eq_true, if_false, Go.choose, Sem.run, hq]
            rfl
          unfold GLcl
          dsimp only
          rw [e]
          refine ⟨1, rfl, rfl, fun τ d g => ?_⟩
          rw [e]
          have g0 : τ d (.order f1 id) = w.tape w.drawn (.order f1 id) := g 0 (by omega) _
          show GStep.go (gor ⟨f1, t1, .inRegion ops (Region.schedule (P.follows .mixedOrders) ops ((Question.order f1 id).cut (τ d (.order f1 id)))) :: k, [], .run, .normal, none⟩ cs) _ _ = _
          rw [g0]
          rfl
    | _ => cases hit
theorem ret_lcl {fr fr' : Frame} {B : Frame} {l : List Frame} {w w' : World} (h : FrR P gl fs R fr fr') (hr : fr.mode = .returning) (hw : WR Z R w w') : GLcl (fun w => unwind P true fr (l ++ [B]) none w) w := by
  obtain ⟨fn, hfn⟩ := h.there
  obtain ⟨f1, t1, td, d1, m1, k1, r1⟩ := fr
  obtain ⟨f2, t2, td2, d2, m2, k2, r2⟩ := fr'
  have h' := h
  obtain ⟨q1, q2, q3, q4, ⟨q5, q6⟩, q7, q8, ⟨q9, q10⟩, ⟨q11, q12⟩, q13⟩ := h'
  simp only at hr q1 q3 q5 q6 q7 q9 q10 q11 q12 hfn
  subst hr q1 q3 q5 q6 q7 q9 q10 q11 q12
  clear q2 q4 q8
  obtain ⟨c0, cs0, hcs⟩ : ∃ c0 cs0, l ++ [B] = c0 :: cs0 := by cases l <;> exact ⟨_, _, rfl⟩
  rw [hcs]
  have e : ∀ w, unwind P true ⟨f1, t1, td, [], .returning, .normal, none⟩ (c0 :: cs0) none w = match (results fn t1).runT P w #[] with
      | (.ok v w, es) => GStep.after (seen P f1 es) (.go (gor (c0.finish v) cs0) w)
      | (.halt (.stuck s) w, es) => GStep.after (seen P f1 es) (.ended (.stuck s (Frame.pos P ⟨f1, t1, td, [], .returning, .normal, none⟩)) w)
      | (.halt _ w, es) => GStep.after (seen P f1 es) (.ended (.stuck "return: the result variables cannot be read" (Frame.pos P ⟨f1, t1, td, [], .returning, .normal, none⟩)) w) := fun w => by
    unfold unwind
    simp only [hfn, doReturn]
    rcases (results fn t1).runT P w #[] with ⟨r, es⟩
    cases r with
    | ok v w1 => rfl
    | halt hh w1 => cases hh <;> rfl
  have hl := (sim_results (P := P) (Z := Z) fn h.tmps).lcl R (.refl _) w w' #[] #[] hw .empty
  unfold GLcl
  unfold Lcl at hl
  dsimp only
  rw [e]
  revert hl
  rcases hrr : (results fn t1).runT P w #[] with ⟨r, es⟩
  cases r with
  | ok v w1 =>
    rintro ⟨c, h1, h2, h3⟩
    exact ⟨c, h1, h2, fun τ d g => by rw [e, h3 τ d g]; rfl⟩
  | halt hh w1 =>
    have fin : ∀ τ d h2 w2 es2, (results fn t1).runT P (w.re τ d) #[] = (.halt h2 w2, es2) → ∃ o w3 es3, unwind P true ⟨f1, t1, td, [], .returning, .normal, none⟩ (c0 :: cs0) none (w.re τ d) = .ended o w3 es3 := fun τ d h2 w2 es2 e2 => by
      rw [e, e2]
      cases h2 <;> exact ⟨_, _, _, rfl⟩
    cases hh with
    | panic v =>
      rintro ⟨c, h1, h2, h3⟩
      exact ⟨c, fun τ d g => fin τ d _ _ _ (h3 τ d g)⟩
    | _ =>
      rintro ⟨c, h3⟩
      exact ⟨c, fun τ d g => let ⟨h2, w2, es2, e2, _⟩ := h3 τ d g; fin τ d h2 w2 es2 e2⟩
theorem step_lcl {B : Frame} {K : List Frame} {g g' : Goroutine} {w w' : World} (hg : P.globals.size ≤ Z.glob) (HF : Frag P gl fs Z) (hgl : ∀ g, gl g = true → R g g)
    (h : GoR P gl fs B K R g g') (hw : WR Z R w w') : GLcl (fun w => stepG P true g w) w := by
  obtain ⟨fr, cs, st, dy, off⟩ := g
  obtain ⟨fr', cs', st', dy', off'⟩ := g'
  obtain ⟨⟨l, m, hl, _, _⟩, ht, ⟨h1, h2⟩, ⟨h3, h4⟩, _⟩ := h
  simp only at h1 h2 h3 h4 hl ht
  subst h1 h2 h3 h4 hl
  rcases ht.run with hr | hr
  · have key := exec_lcl (cs := l ++ [B]) hg HF hgl ht hr hw
    have e : (fun w => stepG P true { frame := fr, callers := l ++ [B], status := .running, dying := none, offers := off } w) = fun w => stepG.exec P true true fr (l ++ [B]) none w := by
      funext w
      unfold stepG
      simp only [hr]
    rw [e]
    exact key
  · have key := ret_lcl (B := B) (l := l) ht hr hw
    have e : (fun w => stepG P true { frame := fr, callers := l ++ [B], status := .running, dying := none, offers := off } w) = fun w => unwind P true fr (l ++ [B]) none w := by
      funext w
      unfold stepG
      simp only [hr]
    rw [e]
    exact key
end
end Ren
end Go.Proofs.YtdkpbobglogmoaaGreat
namespace Go.Proofs.YtdkpbobglogmoaaGreat
open Go
namespace Ren
inductive Tree (P : Program) (Stop : Goroutine → World → Prop) : Goroutine → World → Prop
  | stop {g : Goroutine} {w : World} : Stop g w → Tree P Stop g w
  | step {g : Goroutine} {w : World} : (∀ τ d, ∃ g1 w1 es, stepG P true g (w.re τ d) = .go g1 w1 es) → (∀ τ d g1 w1 es, stepG P true g (w.re τ d) = .go g1 w1 es → Tree P Stop g1 w1) → Tree P Stop g w
def iter (P : Program) : Nat → Goroutine → World → Option (Goroutine × World)
  | 0, g, w => some (g, w)
  | n + 1, g, w => match stepG P true g w with
    | .go g1 w1 _ => iter P n g1 w1
    | _ => none
def Reaches (P : Program) (Stop : Goroutine → World → Prop) (g : Goroutine) (w : World) : Prop := ∃ n g1 w1, iter P n g w = some (g1, w1) ∧ Stop g1 w1
section
variable {P : Program} {Stop : Goroutine → World → Prop}
theorem World.re_re (w : World) (τ τ' : Nat → Question → Nat) (d d' : Nat) : (w.re τ d).re τ' d' = w.re τ' d' := rfl
theorem World.re_self (w : World) : w.re w.tape w.drawn = w := rfl
theorem reaches_go {g g1 : Goroutine} {w w1 : World} {es : Array Event} (h : stepG P true g w = .go g1 w1 es) (hn : ¬ Stop g w) (hr : Reaches P Stop g w) : Reaches P Stop g1 w1 := by
  obtain ⟨n, g2, w2, e, s⟩ := hr
  cases n with
  | zero => cases e; exact absurd s hn
  | succ n =>
    unfold iter at e
    rw [h] at e
    exact ⟨n, g2, w2, e, s⟩
theorem reaches_not {g : Goroutine} {w : World} (h : ∀ g1 w1 es, stepG P true g w ≠ .go g1 w1 es) (hn : ¬ Stop g w) : ¬ Reaches P Stop g w := by
  rintro ⟨n, g2, w2, e, s⟩
  cases n with
  | zero => cases e; exact hn s
  | succ n =>
    unfold iter at e
    split at e
    · rename_i hh
      exact h _ _ _ hh
    · cases e
def sums (c : Nat → Nat) : Nat → Nat
  | 0 => 0
  | j + 1 => sums c j + c j
theorem sums_le (c : Nat → Nat) {j k : Nat} (h : j ≤ k) : sums c j ≤ sums c k := by
  induction k with
  | zero => obtain rfl : j = 0 := by omega
            exact Nat.le_refl _
  | succ k ih =>
    by_cases e : j = k + 1
    · subst e; exact Nat.le_refl _
    · exact Nat.le_trans (ih (by omega)) (by rw [sums]; omega)
noncomputable def stitched (c d : Nat → Nat) (t : Nat → Nat → Question → Nat) : Nat → Question → Nat := fun n q =>
  open Classical in if h : ∃ j, sums c j ≤ n ∧ n < sums c j + c j then t (Classical.choose h) (d (Classical.choose h) + (n - sums c (Classical.choose h))) q else 0
theorem stitched_at (c d : Nat → Nat) (t : Nat → Nat → Question → Nat) (j i : Nat) (hi : i < c j) (q : Question) : stitched c d t (sums c j + i) q = t j (d j + i) q := by
  have h : ∃ j', sums c j' ≤ sums c j + i ∧ sums c j + i < sums c j' + c j' := ⟨j, by omega, by omega⟩
  unfold stitched
  rw [dif_pos h]
  obtain ⟨h1, h2⟩ := Classical.choose_spec h
  generalize Classical.choose h = k at h1 h2
  have e : k = j := by
    rcases Nat.lt_trichotomy k j with x | x | x
    · have := sums_le c (show k + 1 ≤ j from x)
      rw [sums] at this
      omega
    · exact x
    · have := sums_le c (show j + 1 ≤ k from x)
      rw [sums] at this
      omega
  subst e
  congr 1
  omega
theorem tree_of {Live : Goroutine → World → Prop} {g0 : Goroutine} {w0 : World}
    (hloc : ∀ g w, Live g w → ¬ Stop g w → GLcl (fun w => stepG P true g w) w)
    (hnext : ∀ g w g1 w1 es, Live g w → ¬ Stop g w → stepG P true g w = .go g1 w1 es → Live g1 w1 ∨ Stop g1 w1 ∨ ∀ τ d, ¬ Reaches P Stop g1 (w1.re τ d))
    (hre : ∀ g w τ d, Live g w → Live g (w.re τ d)) (hst : ∀ g w τ d, Stop g w → Stop g (w.re τ d))
    (h0 : Live g0 w0) (hall : ∀ τ d, Reaches P Stop g0 (w0.re τ d)) : Tree P Stop g0 w0 := by
  refine Classical.byContradiction fun hno => ?_
  have hst' : ∀ g w τ d, Stop g (w.re τ d) → Stop g w := fun g w τ d s => by
    have := hst g (w.re τ d) w.tape w.drawn s
    rwa [World.re_re, World.re_self] at this
  let Bad : Goroutine × World → Prop := fun x => Live x.1 x.2 ∧ ¬ Tree P Stop x.1 x.2
  let Move : Goroutine × World → (Nat → Question → Nat) → Nat → Nat → Goroutine × World → Prop := fun x τ d c y =>
    ∀ τ' d', Agree (x.2.re τ d) c τ' d' → ∃ es, stepG P true x.1 (x.2.re τ' d') = .go y.1 (y.2.re τ' (d' + c)) es
  let Dead : Goroutine × World → (Nat → Question → Nat) → Nat → Nat → Prop := fun x τ d c => ∀ τ' d', Agree (x.2.re τ d) c τ' d' → ¬ Reaches P Stop x.1 (x.2.re τ' d')
  have key : ∀ x, Bad x → ∃ (τ : Nat → Question → Nat) (d c : Nat), Dead x τ d c ∨ ∃ y, Bad y ∧ Move x τ d c y := by
    rintro ⟨g, w⟩ ⟨hl, hn⟩
    dsimp only at hl hn
    have hs : ¬ Stop g w := fun s => hn (.stop s)
    have hs' : ∀ τ d, ¬ Stop g (w.re τ d) := fun τ d s => hs (hst' _ _ _ _ s)
    by_cases h1 : ∀ τ d, ∃ g1 w1 es, stepG P true g (w.re τ d) = .go g1 w1 es
    · have h2 : ∃ τ d g1 w1 es, stepG P true g (w.re τ d) = .go g1 w1 es ∧ ¬ Tree P Stop g1 w1 := by
        refine Classical.byContradiction fun hc => hn (.step h1 fun τ d g1 w1 es e => Classical.byContradiction fun hc' => hc ⟨τ, d, g1, w1, es, e, hc'⟩)
      obtain ⟨τ, d, g1, w1, es, e, hn1⟩ := h2
      have hloc' := hloc g (w.re τ d) (hre _ _ _ _ hl) (hs' _ _)
      unfold GLcl at hloc'
      dsimp only at hloc'
      rw [e] at hloc'
      obtain ⟨c, e1, e2, e3⟩ := hloc'
      refine ⟨τ, d, c, ?_⟩
      rcases hnext g (w.re τ d) g1 w1 es (hre _ _ _ _ hl) (hs' _ _) e with hl1 | hs1 | hd1
      · exact .inr ⟨(g1, w1), ⟨hl1, hn1⟩, fun τ' d' ag => ⟨es, e3 τ' d' ag⟩⟩
      · exact absurd (.stop hs1) hn1
      · exact .inl fun τ' d' ag hr => hd1 τ' (d' + c) (reaches_go (e3 τ' d' ag) (hs' _ _) hr)
    · have h2 : ∃ τ d, ∀ g1 w1 es, stepG P true g (w.re τ d) ≠ .go g1 w1 es := by
        refine Classical.byContradiction fun hc => h1 fun τ d => Classical.byContradiction fun hc' => hc ⟨τ, d, fun g1 w1 es e => hc' ⟨g1, w1, es, e⟩⟩
      obtain ⟨τ, d, hne⟩ := h2
      have hloc' := hloc g (w.re τ d) (hre _ _ _ _ hl) (hs' _ _)
      unfold GLcl at hloc'
      dsimp only at hloc'
      cases e : stepG P true g (w.re τ d) with
      | go g1 w1 es => exact absurd e (hne _ _ _)
      | ended o w1 es =>
        rw [e] at hloc'
        obtain ⟨c, e3⟩ := hloc'
        refine ⟨τ, d, c, .inl fun τ' d' ag => reaches_not (fun g1 w1 es e' => ?_) (hs' _ _)⟩
        obtain ⟨o2, w2, es2, e4⟩ := e3 τ' d' ag
        have e5 : stepG P true g (w.re τ' d') = .ended o2 w2 es2 := e4
        rw [e5] at e'
        cases e'
      | _ => rw [e] at hloc'; exact hloc'.elim
  let Elem := { x : Goroutine × World // Bad x }
  let tp : Elem → Nat → Question → Nat := fun x => Classical.choose (key x.1 x.2)
  let dr : Elem → Nat := fun x => Classical.choose (Classical.choose_spec (key x.1 x.2))
  let cn : Elem → Nat := fun x => Classical.choose (Classical.choose_spec (Classical.choose_spec (key x.1 x.2)))
  have spec : ∀ x : Elem, Dead x.1 (tp x) (dr x) (cn x) ∨ ∃ y, Bad y ∧ Move x.1 (tp x) (dr x) (cn x) y := fun x => Classical.choose_spec (Classical.choose_spec (Classical.choose_spec (key x.1 x.2)))
  have nx0 : ∀ x : Elem, ∃ y : Elem, Dead x.1 (tp x) (dr x) (cn x) ∨ Move x.1 (tp x) (dr x) (cn x) y.1 := fun x => by
    rcases spec x with h | ⟨y, hy, h⟩
    · exact ⟨x, .inl h⟩
    · exact ⟨⟨y, hy⟩, .inr h⟩
  let nx : Elem → Elem := fun x => Classical.choose (nx0 x)
  have nxs : ∀ x : Elem, Dead x.1 (tp x) (dr x) (cn x) ∨ Move x.1 (tp x) (dr x) (cn x) (nx x).1 := fun x => Classical.choose_spec (nx0 x)
  let sq : Nat → Elem := fun n => Nat.rec ⟨(g0, w0), h0, hno⟩ (fun _ x => nx x) n
  have sq0 : (sq 0).1 = (g0, w0) := rfl
  have sqs : ∀ n, sq (n + 1) = nx (sq n) := fun n => rfl
  let c : Nat → Nat := fun n => cn (sq n)
  let d : Nat → Nat := fun n => dr (sq n)
  let t : Nat → Nat → Question → Nat := fun n => tp (sq n)
  have hag : ∀ j, Agree ((sq j).1.2.re (tp (sq j)) (dr (sq j))) (cn (sq j)) (stitched c d t) (sums c j) := fun j i hi q => stitched_at c d t j i hi q
  have run : ∀ j, ¬ Stop (sq j).1.1 ((sq j).1.2.re (stitched c d t) (sums c j)) := fun j s => (sq j).2.2 (.stop (hst' _ _ _ _ s))
  have no : ∀ n j g1 w1, iter P n (sq j).1.1 ((sq j).1.2.re (stitched c d t) (sums c j)) = some (g1, w1) → ¬ Stop g1 w1 := by
    intro n
    induction n with
    | zero =>
      intro j g1 w1 e s
      cases e
      exact run j s
    | succ n ih =>
      intro j g1 w1 e s
      rcases nxs (sq j) with hd | hm
      · exact hd (stitched c d t) (sums c j) (hag j) ⟨n + 1, g1, w1, e, s⟩
      · obtain ⟨es, e1⟩ := hm (stitched c d t) (sums c j) (hag j)
        unfold iter at e
        rw [e1] at e
        exact ih (j + 1) g1 w1 e s
  obtain ⟨n, g1, w1, e, s⟩ := hall (stitched c d t) 0
  exact no n 0 g1 w1 e s
end
end Ren
end Go.Proofs.YtdkpbobglogmoaaGreat
namespace Go.Proofs.YtdkpbobglogmoaaGreat
open Go
namespace Ren
def door (P : Program) : Frame := { fn := P.funcs.size, tmps := #[undef], todo := [.call default false "fmt's door" #[]], defers := [], mode := .run, kind := .normal }
section
variable {P : Program} {gl fs : Nat → Bool} {Z : Env} {R : Rel}
theorem no_row : Extern.next "fmt's door" = none := by rfl
def Home (P : Program) (Post : Value → World → Prop) (g : Goroutine) (w : World) : Prop := ∃ v, g = gor ((door P).finish v) [] ∧ Post v w
theorem home_ends {v : Value} {w : World} (g1 : Goroutine) (w1 : World) (es : Array Event) : stepG P true (gor ((door P).finish v) []) w ≠ .go g1 w1 es := by
  intro h
  unfold stepG gor door Frame.finish at h
  simp only at h
  unfold stepG.exec at h
  simp only [no_row, Option.elim] at h
  cases h
theorem home_no {Post : Value → World → Prop} {v : Value} {w : World} (h : ¬ Post v w) : ¬ Reaches P (Home P Post) (gor ((door P).finish v) []) w :=
  reaches_not (home_ends) fun ⟨u, e, hp⟩ => by
    have e1 : (door P).finish v = (door P).finish u := congrArg Goroutine.frame e
    have e2 : ([Item.extern "fmt's door" (#[].push v)] : List Item) = [Item.extern "fmt's door" (#[].push u)] := congrArg Frame.todo e1
    have e3 : v = u := by simpa using e2
    exact h (e3 ▸ hp)
structure Sinks (P : Program) (g : Goroutine) : Prop where
  mode : ∃ c, g.frame.mode = .panicking c
  defers : g.frame.defers = []
  ls : (∃ l, g.callers = l ++ [door P] ∧ ∀ f ∈ l, f.defers = []) ∨ (g.callers = [] ∧ g.frame.catches P = true)
  st : g.status = .running
  dy : g.dying = none
  of : g.offers = none
theorem raise_mode (f : Frame) (c : List PanicEntry) : ∃ c', (f.raise c).mode = .panicking c' := by
  unfold Frame.raise
  split <;> exact ⟨_, rfl⟩
theorem raise_defers (f : Frame) (c : List PanicEntry) : (f.raise c).defers = f.defers := by
  unfold Frame.raise
  split <;> rfl
theorem Falls.sinks {g : Goroutine} (h : Falls (door P) g) : Sinks P g := ⟨h.mode, h.defers, .inl h.ls, h.st, h.dy, h.of⟩
theorem Sinks.step {g : Goroutine} (h : Sinks P g) {w : World} : (∃ g1, stepG P true g w = .go g1 w #[] ∧ Sinks P g1) ∨ ∃ o w1 es, stepG P true g w = .ended o w1 es := by
  obtain ⟨fr, cs, st, dy, off⟩ := g
  obtain ⟨⟨c, h1⟩, h2, h3, h4, h5, h6⟩ := h
  simp only at h1 h2 h3 h4 h5 h6
  subst h4 h5 h6
  unfold stepG
  simp only [h1]
  unfold unwind
  simp only [h2, h1]
  by_cases hc : fr.catches P = true
  · rw [if_pos hc]
    exact .inr ⟨_, _, _, rfl⟩
  · rw [if_neg hc]
    rcases h3 with ⟨l, rfl, hd⟩ | ⟨_, h⟩
    · cases l with
      | nil =>
        refine .inl ⟨gor ((door P).raise c) [], rfl, raise_mode _ _, raise_defers _ _, .inr ⟨rfl, ?_⟩, rfl, rfl, rfl⟩
        show Frame.catches P ((door P).raise c) = true
        unfold Frame.catches
        have e : ((door P).raise c).fn = P.funcs.size := rfl
        have e2 : ((door P).raise c).todo = [.call default false "fmt's door" #[]] := rfl
        rw [e, e2]
        have e3 : P.funcs[P.funcs.size]? = none := by simp
        rw [e3]
        show String.startsWith "fmt's door" "fmt's door" = true
        decide +kernel
      | cons a l =>
        exact .inl ⟨gor (a.raise c) (l ++ [door P]), rfl, raise_mode _ _, (raise_defers _ _).trans (hd a (by simp)), .inl ⟨l, rfl, fun f hf => hd f (by simp [hf])⟩, rfl, rfl, rfl⟩
    · exact absurd h hc
theorem Sinks.no {Post : Value → World → Prop} : ∀ (n : Nat) {g : Goroutine} (h : Sinks P g) {w : World} {g1 : Goroutine} {w1 : World}, iter P n g w = some (g1, w1) → ¬ Home P Post g1 w1 := by
  intro n
  induction n with
  | zero =>
    intro g h w g1 w1 e
    cases e
    rintro ⟨v, e, _⟩
    obtain ⟨c, hc⟩ := h.mode
    rw [e] at hc
    cases hc
  | succ n ih =>
    intro g h w g1 w1 e
    unfold iter at e
    rcases h.step (w := w) with ⟨g2, e2, h2⟩ | ⟨o, w2, es, e2⟩
    · rw [e2] at e
      exact ih h2 e
    · rw [e2] at e
      cases e
variable (P gl fs Z) in
def Live (g : Goroutine) (w : World) : Prop := ∃ R K g' w', K ≠ [] ∧ GoR P gl fs (door P) K R g g' ∧ WR Z R w w' ∧ ∀ x, gl x = true → R x x
theorem WR.re {w w' : World} (h : WR Z R w w') (τ : Nat → Question → Nat) (d : Nat) : WR Z R (w.re τ d) (w'.re τ d) :=
  ⟨h.fn, h.inj, h.obj, h.ice, rfl, rfl, h.glob, h.big, h.big'⟩
variable (hg : P.globals.size ≤ Z.glob) (HF : Frag P gl fs Z)
include hg HF
theorem live_next {Post : Value → World → Prop} (hpost : ∀ v w τ d, Post v w → Post v (w.re τ d)) {g g1 : Goroutine} {w w1 : World} {es : Array Event} (h : Live P gl fs Z g w) (e : stepG P true g w = .go g1 w1 es) :
    Live P gl fs Z g1 w1 ∨ Home P Post g1 w1 ∨ ∀ τ d, ¬ Reaches P (fun g w => Home P Post g w) g1 (w1.re τ d) := by
  obtain ⟨R, K, g', w', hK, hG, hW, hgl⟩ := h
  have key := step_like (main := true) hg HF hgl hK hG hW
  rw [e] at key
  rcases key with ⟨R1, g1', w1', es', e', t, he, h1 | h1⟩ | h1
  · exact .inl ⟨R1, K, g1', w1', hK, h1, t.wr, fun x hx => t.le _ _ (hgl x hx)⟩
  · obtain ⟨⟨v, u, k, K', hv, e1, e2, e3, e4, e5⟩, ⟨e6, _⟩, ⟨e7, _⟩, ⟨e8, _⟩⟩ := h1
    obtain ⟨f0, c0, s0, d0, o0⟩ := g1
    simp only at e2 e3 e6 e7 e8
    subst e2 e3 e6 e7 e8
    by_cases hp : Post v w1
    · exact .inr (.inl ⟨v, rfl, hp⟩)
    · exact .inr (.inr fun τ d => home_no fun h => hp (by have := hpost v _ w1.tape w1.drawn h; exact this))
  · exact .inr (.inr fun τ d ⟨n, g2, w2, e2, s⟩ => h1.sinks.no n e2 s)
omit hg HF in
theorem runN_iter {Cls : Goroutine → World → Prop} (hs : ∀ g w, Cls g w → g.status = .running ∧ g.dying = none ∧ g.offers = none)
    (hn : ∀ g w g1 w1 es, Cls g w → stepG P true g w = .go g1 w1 es → Cls g1 w1) (he : ∀ g w, Cls g w → (∃ g1 w1 es, stepG P true g w = .go g1 w1 es) ∨ ∃ o w1 es, stepG P true g w = .ended o w1 es) :
    ∀ (n : Nat) (g : Goroutine) (w : World) (fr2 : Frame) (cs2 : List Frame) (w2 : World), Cls g w → runN P n (lone g.frame g.callers w) = .next (lone fr2 cs2 w2) → iter P n g w = some (gor fr2 cs2, w2) := by
  intro n
  induction n with
  | zero =>
    intro g w fr2 cs2 w2 hc h
    obtain ⟨h1, h2, h3⟩ := hs g w hc
    obtain ⟨fr, cs, st, dy, off⟩ := g
    simp only at h1 h2 h3
    subst h1 h2 h3
    simp only [runN, lone, Stepped.next.injEq, Machine.mk.injEq, Array.mk.injEq, List.cons.injEq, Goroutine.mk.injEq, and_true, true_and] at h
    obtain ⟨rfl, rfl, rfl⟩ := h
    rfl
  | succ n ih =>
    intro g w fr2 cs2 w2 hc h
    have hc0 := hc
    obtain ⟨h1, h2, h3⟩ := hs g w hc
    have hh := he g w hc
    obtain ⟨fr, cs, st, dy, off⟩ := g
    simp only at h1 h2 h3
    subst h1 h2 h3
    unfold runN at h
    unfold iter
    rcases hh with ⟨g1, w1, es, e⟩ | ⟨o, w1, es, e⟩
    · have hc1 := hn _ _ _ _ _ hc0 e
      obtain ⟨k1, k2, k3⟩ := hs _ _ hc1
      obtain ⟨fr1, cs1, st1, dy1, off1⟩ := g1
      simp only at k1 k2 k3
      subst k1 k2 k3
      have := step_lone_go (P := P) (fr := fr) (cs := cs) (w := w) (fr' := fr1) (cs' := cs1) (w' := w1) (by rw [e]; rfl)
      dsimp only at h
      rw [this] at h
      rw [e]
      exact ih _ _ _ _ _ hc1 h
    · have := step_lone_ended (P := P) (fr := fr) (cs := cs) (w := w) (w' := w1) (o := o) (by rw [e]; rfl)
      dsimp only at h
      rw [this] at h
      cases h
theorem call_tree {f : FuncId} {args : Array Value} {w0 : World} {Post : Value → World → Prop} (hpost : ∀ v w τ d, Post v w → Post v (w.re τ d))
    (hl : Live P gl fs Z (gor (Frame.enter P f args .normal) [door P]) w0)
    (h : ∀ τ d, Calls P f args (w0.re τ d) fun e w' => ∃ v, e = .returned v ∧ Post v w') :
    Tree P (Home P Post) (gor (Frame.enter P f args .normal) [door P]) w0 := by
  refine tree_of (Live := Live P gl fs Z) ?_ ?_ ?_ ?_ hl fun τ d => ?_
  · rintro g w ⟨R, K, g', w', hK, hG, hW, hgl⟩ hs
    exact step_lcl hg HF hgl hG hW
  · intro g w g1 w1 es hl hs e
    exact live_next hg HF hpost hl e
  · rintro g w τ d ⟨R, K, g', w', hK, hG, hW, hgl⟩
    exact ⟨R, K, g', w'.re τ d, hK, hG, hW.re τ d, hgl⟩
  · rintro g w τ d ⟨v, e, hp⟩
    exact ⟨v, e, hpost _ _ _ _ hp⟩
  · obtain ⟨e, w', fr, ⟨v, rfl, hp⟩, hc, hfn, hlv⟩ := h τ d [door P]
    have hst : Steps P (lone (Frame.enter P f args .normal) [door P] (w0.re τ d)) (lone ((door P).finish v) [] w') := Steps.trans hc (Steps.one (step_leave_returned hlv))
    obtain ⟨n, hn⟩ := hst
    refine ⟨n, gor ((door P).finish v) [], w', runN_iter (Cls := fun g w => Live P gl fs Z g w ∨ (∃ v, g = gor ((door P).finish v) []) ∨ Sinks P g) ?_ ?_ ?_ n (gor (Frame.enter P f args .normal) [door P]) _ _ _ _ ?_ hn, v, rfl, hp⟩
    · rintro g w (⟨R, K, g', w', hK, hG, hW, hgl⟩ | ⟨v, rfl⟩ | hk)
      · exact ⟨hG.st.1, hG.dy.1, hG.of.1⟩
      · exact ⟨rfl, rfl, rfl⟩
      · exact ⟨hk.st, hk.dy, hk.of⟩
    · rintro g w g1 w1 es (⟨R, K, g', w', hK, hG, hW, hgl⟩ | ⟨v, rfl⟩ | hk) e
      · have key := step_like (main := true) hg HF hgl hK hG hW
        rw [e] at key
        rcases key with ⟨R1, g1', w1', es', e', t, he, h1 | h1⟩ | h1
        · exact .inl ⟨R1, K, g1', w1', hK, h1, t.wr, fun x hx => t.le _ _ (hgl x hx)⟩
        · obtain ⟨⟨v, u, k, K', hv, e1, e2, e3, e4, e5⟩, ⟨e6, _⟩, ⟨e7, _⟩, ⟨e8, _⟩⟩ := h1
          obtain ⟨f0, c0, s0, d0, o0⟩ := g1
          simp only at e2 e3 e6 e7 e8
          subst e2 e3 e6 e7 e8
          exact .inr (.inl ⟨v, rfl⟩)
        · exact .inr (.inr h1.sinks)
      · exact absurd e (home_ends _ _ _)
      · rcases hk.step (w := w) with ⟨g2, e2, h2⟩ | ⟨o, w2, es2, e2⟩
        · rw [e] at e2
          cases e2
          exact .inr (.inr h2)
        · rw [e] at e2
          cases e2
    · rintro g w (⟨R, K, g', w', hK, hG, hW, hgl⟩ | ⟨v, rfl⟩ | hk)
      · have key := step_like (main := true) hg HF hgl hK hG hW
        revert key
        cases e : stepG P true g w with
        | go g1 w1 es => intro _; exact .inl ⟨_, _, _, rfl⟩
        | ended o w1 es => intro _; exact .inr ⟨_, _, _, rfl⟩
        | _ => intro key; exact key.elim
      · refine .inr ?_
        unfold stepG gor door Frame.finish
        simp only
        unfold stepG.exec
        simp only [no_row, Option.elim]
        exact ⟨_, _, _, rfl⟩
      · rcases hk.step (w := w) with ⟨g2, e2, h2⟩ | ⟨o, w2, es2, e2⟩
        · exact .inl ⟨_, _, _, e2⟩
        · exact .inr ⟨_, _, _, e2⟩
    · obtain ⟨R, K, g', w', hK, hG, hW, hgl⟩ := hl
      exact .inl ⟨R, K, g', w'.re τ d, hK, hG, hW.re τ d, hgl⟩
end
end Ren
end Go.Proofs.YtdkpbobglogmoaaGreat
