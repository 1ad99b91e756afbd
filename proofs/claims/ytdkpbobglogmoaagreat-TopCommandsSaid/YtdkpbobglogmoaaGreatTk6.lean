/- Parts of the proof of TopCommandsProof: PoolExt PoolGt. -/
import Derived.Orders
import Derived.Conc.Beside
import Derived.Conc.WgGenW
import Derived.Test.YtdkpbobglogmoaaGreatTk5
set_option linter.unusedVariables false
set_option linter.unusedSimpArgs false
set_option maxRecDepth 100000
set_option maxHeartbeats 32000000
namespace Go.Proofs.YtdkpbobglogmoaaGreat
open Go
namespace Ren
inductive Tail where
  | app (T : List Item)
  | cut (ops : Array Oper) (l2 : List Nat) (T : List Item)
def Tail.glue : Tail → List Item → List Item
  | .app T, X => X ++ T
  | .cut ops l2 T, [] => .inRegion ops l2 :: T
  | .cut _ l2 T, .inRegion ops l :: _ => .inRegion ops (l ++ l2) :: T
  | .cut ops l2 T, _ :: _ => .inRegion ops l2 :: T
def Tail.Fits : Tail → List Item → Prop
  | .app _, _ => True
  | .cut ops _ _, X => X = [] ∨ ∃ l, X = [.inRegion ops l]
def Tail.Goes : Tail → List Item → Prop
  | .app _, X => X ≠ []
  | .cut ops _ _, X => ∃ i rest, X = [.inRegion ops (i :: rest)]
def seesX (H : Nat → Bool) : Operand → Bool
  | .tmp t => !H t
  | _ => true
def writes (H : Nat → Bool) (o : Oper) : Bool := match o.dst with
  | some d => !H d
  | none => true
def seesO (H : Nat → Bool) (o : Oper) : Bool := o.op.operands.toList.all (seesX H) && writes H o
def seesC (H : Nat → Bool) : Code → Bool
  | .skip | .exit _ | .label _ | .goto _ | .ret => true
  | .region _ ops _ => ops.toList.all fun o => seesO H o
  | .seq a b => seesC H a && seesC H b
  | .cond c a b => seesX H c && seesC H a && seesC H b
  | .block _ c | .loop c | .scope c => seesC H c
  | .rangeFunc _ _ _ _ => false
  | .refuse _ => true
def seesI (H : Nat → Bool) : Item → Bool
  | .code c => seesC H c
  | .inBlock _ => true
  | .inLoop c | .inScope c => seesC H c
  | .inRegion ops l => (ops.toList.all fun o => writes H o) && l.all fun i => (ops[i]?).all fun o => seesO H o
  | _ => false
structure SameT (H : Nat → Bool) (z tm tm' : Array Value) : Prop where
  size : tm.size = tm'.size
  at_ : ∀ i, H i = false → tm'[i]? = tm[i]?
  hid : ∀ i, H i = true → tm'[i]? = z[i]?
theorem SameT.set {H : Nat → Bool} {z tm tm' : Array Value} (h : SameT H z tm tm') {d : Nat} (hd : H d = false) (v : Value) : SameT H z (tm.setIfInBounds d v) (tm'.setIfInBounds d v) := by
  refine ⟨by simp [h.size], fun i hi => ?_, fun i hi => ?_⟩
  · simp only [Array.getElem?_setIfInBounds, h.size, h.at_ i hi]
  · have : d ≠ i := fun e => by rw [e, hi] at hd; cases hd
    rw [Array.getElem?_setIfInBounds_ne this]
    exact h.hid i hi
abbrev Over := List Deferred × CallKind
def OnR (H : Nat → Bool) (z : Array Value) (t : Tail) (ds : Over) (fr fr' : Frame) : Prop :=
  ∃ tm', fr' = { fr with tmps := tm', todo := t.glue fr.todo, defers := ds.1, kind := ds.2 } ∧ SameT H z fr.tmps tm'
inductive Tame : Next → Prop
  | value (v : Value) : Tame (.value v)
  | skip : Tame .skip
  | enter (f : FuncId) (args : Array Value) : Tame (.enter f args)
section
variable {P : Program} {gl fs : Nat → Bool} {Z : Env} {R : Rel}
theorem exitTo_app {id : Nat} {T : List Item} : ∀ {k k' : List Item}, exitTo id k = some k' → exitTo id (k ++ T) = some (k' ++ T)
  | [], k', h => by cases h
  | y :: k, k', h => by
    cases y <;> simp only [exitTo, List.cons_append] at h ⊢ <;> first
      | exact exitTo_app h
      | (split at h
         · rename_i hh; cases h; rw [if_pos hh]
         · rename_i hh; rw [if_neg hh]; exact exitTo_app h)
theorem gotoIn_app {l : Nat} {T : List Item} : ∀ {k k' : List Item}, gotoIn l k = some k' → gotoIn l (k ++ T) = some (k' ++ T)
  | [], k', h => by cases h
  | .inScope body :: k, k', h => by
    simp only [gotoIn, List.cons_append] at h ⊢
    cases hb : findLabel body l with
    | some r => simp only [hb] at h ⊢; cases h; rfl
    | none => simp only [hb] at h ⊢; exact gotoIn_app h
  | .code _ :: k, k', h => gotoIn_app (k := k) h
  | .inBlock _ :: k, k', h => gotoIn_app (k := k) h
  | .inLoop _ :: k, k', h => gotoIn_app (k := k) h
  | .inRegion _ _ :: k, k', h => gotoIn_app (k := k) h
  | .inRangeFunc _ :: k, k', h => gotoIn_app (k := k) h
  | .endRangeFunc _ :: k, k', h => gotoIn_app (k := k) h
  | .beginRound :: k, k', h => gotoIn_app (k := k) h
  | .call .. :: k, k', h => gotoIn_app (k := k) h
  | .extern .. :: k, k', h => gotoIn_app (k := k) h
theorem findLabel_sees {H : Nat → Bool} : ∀ {c : Code} {l : Nat} {r : Code}, findLabel c l = some r → seesC H c = true → seesC H r = true
  | .seq a b, l, r, h, hc => by
    simp only [seesC, Bool.and_eq_true] at hc
    unfold findLabel at h
    split at h
    · rename_i x e
      cases h
      simp only [seesC, Bool.and_eq_true]
      exact ⟨findLabel_sees e hc.1, hc.2⟩
    · exact findLabel_sees h hc.2
  | .label l', l, r, h, hc => by
    unfold findLabel at h
    split at h
    · cases h; rfl
    · cases h
  | .skip, l, r, h, hc => by cases h
  | .region .., l, r, h, hc => by cases h
  | .cond .., l, r, h, hc => by cases h
  | .block .., l, r, h, hc => by cases h
  | .loop _, l, r, h, hc => by cases h
  | .rangeFunc .., l, r, h, hc => by cases h
  | .exit _, l, r, h, hc => by cases h
  | .scope _, l, r, h, hc => by cases h
  | .goto _, l, r, h, hc => by cases h
  | .ret, l, r, h, hc => by cases h
  | .refuse _, l, r, h, hc => by cases h
theorem exitTo_sees {H : Nat → Bool} {id : Nat} : ∀ {k k' : List Item}, exitTo id k = some k' → (∀ x ∈ k, seesI H x = true) → ∀ x ∈ k', seesI H x = true
  | [], k', h, _ => by cases h
  | y :: k, k', h, hk => by
    cases y <;> simp only [exitTo] at h <;> first
      | exact exitTo_sees h fun x hx => hk x (by simp [hx])
      | (split at h
         · cases h; exact fun x hx => hk x (by simp [hx])
         · exact exitTo_sees h fun x hx => hk x (by simp [hx]))
theorem gotoIn_sees {H : Nat → Bool} {l : Nat} : ∀ {k k' : List Item}, gotoIn l k = some k' → (∀ x ∈ k, seesI H x = true) → ∀ x ∈ k', seesI H x = true
  | [], k', h, _ => by cases h
  | y :: k, k', h, hk => by
    cases y <;> simp only [gotoIn] at h <;> first
      | exact gotoIn_sees h fun x hx => hk x (by simp [hx])
      | (split at h
         · rename_i body r e
           cases h
           have hb := hk _ (List.mem_cons_self ..)
           have hr : seesC H r = true := findLabel_sees e hb
           intro x hx
           rcases List.mem_cons.1 hx with rfl | hx
           · exact hr
           · exact hk x hx
         · exact gotoIn_sees h fun x hx => hk x (by simp [hx]))
theorem eval_sees {H : Nat → Bool} {z : Array Value} {fr fr' : Frame} (h : SameT H z fr.tmps fr'.tmps) {x : Operand} (hx : seesX H x = true) : fr'.eval x = fr.eval x := by
  cases x with
  | tmp t =>
    show fr'.tmps.getD t undef = fr.tmps.getD t undef
    rw [Array.getD_eq_getD_getElem?, Array.getD_eq_getD_getElem?, h.at_ t (by simpa [seesX] using hx)]
  | _ => rfl
theorem yielded_sees {H : Nat → Bool} {z tm tm' : Array Value} (h : SameT H z tm tm') {ops : Array Oper} (ho : (ops.toList.all fun o => writes H o) = true) : yielded ops tm' = yielded ops tm := by
  funext j
  unfold yielded
  cases e : ops[j]? with
  | none => rfl
  | some o =>
    have := List.all_eq_true.1 ho o (by simp; exact Array.mem_of_getElem? e)
    simp only [Option.bind_some]
    unfold writes at this
    cases hd : o.dst with
    | none => rfl
    | some d =>
      rw [hd] at this
      simp only [Option.bind_some]
      rw [h.at_ d (by simpa using this)]
theorem exec_sees {H : Nat → Bool} {z : Array Value} {fr fr' : Frame} (h : SameT H z fr.tmps fr'.tmps) {o : Oper} (ho : seesO H o = true) (hs : ∀ cs b, o.op ≠ .select cs b) : execOp fr'.eval o = execOp fr.eval o := by
  simp only [seesO, Bool.and_eq_true] at ho
  exact execOp_congr o hs fun x hx => eval_sees h (List.all_eq_true.1 ho.1 x (by simpa using hx))
theorem finish_on {H : Nat → Bool} {z : Array Value} {t : Tail} {ds : Over} {fr fr' : Frame} {ops : Array Oper} {i : Nat} {rest : List Nat} {k : List Item} (ht : fr.todo = .inRegion ops (i :: rest) :: k) (hf : t.Fits fr.todo) (hw : (ops.toList.all fun o => writes H o) = true) (hon : OnR H z t ds fr fr') (v : Value) :
    OnR H z t ds (fr.finish v) (fr'.finish v) ∧ t.Fits (fr.finish v).todo ∧ (fr.finish v).todo = .inRegion ops rest :: k := by
  obtain ⟨f, tm, td, d, m, kd, r⟩ := fr
  obtain ⟨tm', rfl, hs⟩ := hon
  simp only at ht hs
  subst ht
  have hset : SameT H z (match (ops[i]?).bind (·.dst) with | some d => tm.setIfInBounds d v | none => tm) (match (ops[i]?).bind (·.dst) with | some d => tm'.setIfInBounds d v | none => tm') := by
    cases e : ops[i]? with
    | none => exact hs
    | some o =>
      have := List.all_eq_true.1 hw o (by simp; exact Array.mem_of_getElem? e)
      unfold writes at this
      simp only [Option.bind_some]
      cases hd : o.dst with
      | none => exact hs
      | some d =>
        rw [hd] at this
        exact hs.set (by simpa using this) v
  cases t with
  | app T => exact ⟨⟨_, rfl, hset⟩, trivial, rfl⟩
  | cut ops' l2 T =>
    rcases hf with hf | ⟨l, hf⟩
    · cases hf
    · simp only [List.cons.injEq, Item.inRegion.injEq] at hf
      obtain ⟨⟨rfl, rfl⟩, rfl⟩ := hf
      exact ⟨⟨_, rfl, hset⟩, .inr ⟨rest, rfl⟩, rfl⟩
def applied (P : Program) (x : Next) (fin : Value → Goroutine) (enter : FuncId → Array Value → Goroutine) (w : World) : GStep := match x with
  | .value v => .go (fin v) w
  | .enter f args => .go (enter f args) w
  | _ => .go (fin undef) w
theorem exec_tail {main : Bool} {H : Nat → Bool} {z : Array Value} {t : Tail} {ds : Over} {fr : Frame} {cs : List Frame} {w w1 : World} {g1 : Goroutine} {es : Array Event}
    (hkd : (ds.2 == CallKind.early) = false) (hm : fr.mode = .run) (hd : fr.defers = []) (hk : fr.kind = .normal) (hr : fr.roundOf = none) (hok : ∀ x ∈ fr.todo, okItem P gl fs x = true) (hsee : ∀ x ∈ fr.todo, seesI H x = true) (hf : t.Fits fr.todo) (hgo : t.Goes fr.todo)
    (tame : ∀ o, fr.oper? = some o → ∀ ops i rest k, fr.todo = .inRegion ops (i :: rest) :: k → ((ops[i]?).map (Region.wanted · (yielded ops fr.tmps))).getD false = true → ∃ x w1 es, (execOp fr.eval o).runT P w #[] = (.ok x w1, es) ∧ Tame x)
    (e : stepG.exec P main true fr cs none w = .go g1 w1 es) :
    (∃ f1, g1 = gor f1 cs ∧ (f1.mode = .run ∨ f1.mode = .returning) ∧ f1.defers = [] ∧ f1.kind = .normal ∧ f1.roundOf = none ∧ t.Fits f1.todo ∧ (∀ x ∈ f1.todo, seesI H x = true) ∧ ∀ fr' cs', OnR H z t ds fr fr' → ∃ f1', OnR H z t ds f1 f1' ∧ stepG.exec P main true fr' cs' none w = .go (gor f1' cs') w1 es) ∨
    (∃ f1 ops i rest k, g1 = gor f1 (fr :: cs) ∧ fr.todo = .inRegion ops (i :: rest) :: k ∧ ∀ fr' cs', OnR H z t ds fr fr' → stepG.exec P main true fr' cs' none w = .go (gor f1 (fr' :: cs')) w1 es) := by
  obtain ⟨f, tm, td, d, m, kd, r⟩ := fr
  simp only at hm hd hk hr hsee
  subst hm hd hk hr
  have region : ∀ ops i rest k, td = .inRegion ops (i :: rest) :: k →
      (∃ f1, g1 = gor f1 cs ∧ (f1.mode = .run ∨ f1.mode = .returning) ∧ f1.defers = [] ∧ f1.kind = .normal ∧ f1.roundOf = none ∧ t.Fits f1.todo ∧ (∀ x ∈ f1.todo, seesI H x = true) ∧ ∀ fr' cs', OnR H z t ds ⟨f, tm, td, [], .run, .normal, none⟩ fr' → ∃ f1', OnR H z t ds f1 f1' ∧ stepG.exec P main true fr' cs' none w = .go (gor f1' cs') w1 es) ∨
      (∃ f1 ops i rest k, g1 = gor f1 (⟨f, tm, td, [], .run, .normal, none⟩ :: cs) ∧ td = .inRegion ops (i :: rest) :: k ∧ ∀ fr' cs', OnR H z t ds ⟨f, tm, td, [], .run, .normal, none⟩ fr' → stepG.exec P main true fr' cs' none w = .go (gor f1 (fr' :: cs')) w1 es) := by
    intro ops i rest k ht
    subst ht
    have hse := hsee (.inRegion ops (i :: rest)) (by simp)
    have hse2 : ∀ x ∈ k, seesI H x = true := fun x hx => hsee x (by simp [hx])
    simp only [seesI, List.all_cons, Bool.and_eq_true] at hse
    obtain ⟨hwr, hsi, hsr⟩ := hse
    have hfin : ∀ x ∈ (Item.inRegion ops rest :: k), seesI H x = true := fun x hx => by
      rcases List.mem_cons.1 hx with rfl | hx
      · simp only [seesI, Bool.and_eq_true]; exact ⟨hwr, hsr⟩
      · exact hse2 x hx
    have hon : ∀ fr', OnR H z t ds ⟨f, tm, .inRegion ops (i :: rest) :: k, [], .run, .normal, none⟩ fr' → ∃ tm' l T', fr' = ⟨f, tm', .inRegion ops (i :: l) :: T', ds.1, .run, ds.2, none⟩ ∧ SameT H z tm tm' := by
      rintro fr' ⟨tm', rfl, hs⟩
      cases t with
      | app T => exact ⟨tm', rest, k ++ T, rfl, hs⟩
      | cut ops' l2 T => exact ⟨tm', rest ++ l2, T, rfl, hs⟩
    have fit : ∀ v, t.Fits (Frame.finish ⟨f, tm, .inRegion ops (i :: rest) :: k, [], .run, .normal, none⟩ v).todo ∧ ∀ x ∈ (Frame.finish ⟨f, tm, .inRegion ops (i :: rest) :: k, [], .run, .normal, none⟩ v).todo, seesI H x = true := fun v => by
      refine ⟨?_, hfin⟩
      cases t with
      | app T => trivial
      | cut ops' l2 T =>
        rcases hf with hf | ⟨l, hf⟩
        · cases hf
        · simp only [List.cons.injEq, Item.inRegion.injEq] at hf
          obtain ⟨⟨rfl, rfl⟩, rfl⟩ := hf
          exact .inr ⟨rest, rfl⟩
    by_cases hw : ((ops[i]?).map (Region.wanted · (yielded ops tm))).getD false = true
    · have hop : ∃ o, ops[i]? = some o := by
        cases e : ops[i]? with
        | none => rw [e] at hw; cases hw
        | some o => exact ⟨o, rfl⟩
      obtain ⟨o, ho⟩ := hop
      obtain ⟨x, w2, es2, hx, htm⟩ := tame o ho ops i rest k rfl hw
      have hos : seesO H o = true := by rw [ho] at hsi; simpa using hsi
      have hns : ∀ cs b, o.op ≠ .select cs b := fun cs b e2 => by
        have := hok (.inRegion ops (i :: rest)) (by simp)
        simp only [okItem, List.all_cons, Bool.and_eq_true, ho, Option.all_some] at this
        rw [e2] at this
        cases this.1
      have go : ∀ ds2 kd2 cs' l2 T2 tm2, SameT H z tm tm2 ∨ tm2 = tm → stepG.exec P main true ⟨f, tm2, .inRegion ops (i :: l2) :: T2, ds2, .run, kd2, none⟩ cs' none w = stepG.apply P true ⟨f, tm2, .inRegion ops (i :: l2) :: T2, ds2, .run, kd2, none⟩ cs' none (execOp (Frame.eval ⟨f, tm, .inRegion ops (i :: rest) :: k, [], .run, .normal, none⟩) o) w := fun ds2 kd2 cs' l2 T2 tm2 hs => by
        have hw2 : ((ops[i]?).map (Region.wanted · (yielded ops tm2))).getD false = true := by
          rcases hs with hs | rfl
          · rw [yielded_sees hs hwr]; exact hw
          · exact hw
        have ev : execOp (Frame.eval ⟨f, tm2, .inRegion ops (i :: l2) :: T2, ds2, .run, kd2, none⟩) o = execOp (Frame.eval ⟨f, tm, .inRegion ops (i :: rest) :: k, [], .run, .normal, none⟩) o := by
          rcases hs with hs | rfl
          · exact exec_sees (fr := ⟨f, tm, .inRegion ops (i :: rest) :: k, [], .run, .normal, none⟩) hs hos hns
          · congr 1
        unfold stepG.exec
        simp only [hw2, if_true]
        unfold stepG.oper
        simp only [Frame.oper?, ho]
        rw [ev]
      rw [go _ _ _ _ _ _ (.inr rfl)] at e
      have ap : ∀ ds2 kd2 cs' l2 T2 tm2, (kd2 == CallKind.early) = false → stepG.apply P true ⟨f, tm2, .inRegion ops (i :: l2) :: T2, ds2, .run, kd2, none⟩ cs' none (execOp (Frame.eval ⟨f, tm, .inRegion ops (i :: rest) :: k, [], .run, .normal, none⟩) o) w = GStep.after (seen P f es2) (applied P x (fun v => gor (Frame.finish ⟨f, tm2, .inRegion ops (i :: l2) :: T2, ds2, .run, kd2, none⟩ v) cs') (fun f' args => gor (Frame.enter P f' args .normal) (⟨f, tm2, .inRegion ops (i :: l2) :: T2, ds2, .run, kd2, none⟩ :: cs')) w2) := fun ds2 kd2 cs' l2 T2 tm2 hk2 => by
        unfold stepG.apply
        simp only [if_true, hx, hk2]
        cases htm <;> rfl
      rw [ap _ _ _ _ _ _ rfl] at e
      cases htm with
      | value v =>
        simp only [applied, GStep.after] at e
        injection e with e1 e2 e3
        subst e1 e2 e3
        refine .inl ⟨_, rfl, .inl rfl, rfl, rfl, rfl, (fit v).1, (fit v).2, fun fr' cs' hon' => ?_⟩
        have h1 := (finish_on rfl hf hwr hon' v).1
        obtain ⟨tm', l, T', rfl, hs⟩ := hon fr' hon'
        exact ⟨_, h1, by rw [go _ _ _ _ _ _ (.inl hs), ap _ _ _ _ _ _ hkd]; rfl⟩
      | skip =>
        simp only [applied, GStep.after] at e
        injection e with e1 e2 e3
        subst e1 e2 e3
        refine .inl ⟨_, rfl, .inl rfl, rfl, rfl, rfl, (fit undef).1, (fit undef).2, fun fr' cs' hon' => ?_⟩
        have h1 := (finish_on rfl hf hwr hon' undef).1
        obtain ⟨tm', l, T', rfl, hs⟩ := hon fr' hon'
        exact ⟨_, h1, by rw [go _ _ _ _ _ _ (.inl hs), ap _ _ _ _ _ _ hkd]; rfl⟩
      | enter f' args =>
        simp only [applied, GStep.after] at e
        injection e with e1 e2 e3
        subst e1 e2 e3
        refine .inr ⟨_, ops, i, rest, k, rfl, rfl, fun fr' cs' hon' => ?_⟩
        obtain ⟨tm', l, T', rfl, hs⟩ := hon fr' hon'
        rw [go _ _ _ _ _ _ (.inl hs), ap _ _ _ _ _ _ hkd]
        rfl
    · have go : ∀ ds2 kd2 cs' l2 T2 tm2, SameT H z tm tm2 ∨ tm2 = tm → stepG.exec P main true ⟨f, tm2, .inRegion ops (i :: l2) :: T2, ds2, .run, kd2, none⟩ cs' none w = .go (gor (Frame.finish ⟨f, tm2, .inRegion ops (i :: l2) :: T2, ds2, .run, kd2, none⟩ undef) cs') w := fun ds2 kd2 cs' l2 T2 tm2 hs => by
        have hw2 : ((ops[i]?).map (Region.wanted · (yielded ops tm2))).getD false = ((ops[i]?).map (Region.wanted · (yielded ops tm))).getD false := by
          rcases hs with hs | rfl
          · rw [yielded_sees hs hwr]
          · rfl
        unfold stepG.exec
        simp only [hw2, hw]
        rfl
      rw [go _ _ _ _ _ _ (.inr rfl)] at e
      injection e with e1 e2 e3
      subst e1 e2 e3
      refine .inl ⟨_, rfl, .inl rfl, rfl, rfl, rfl, (fit undef).1, (fit undef).2, fun fr' cs' hon' => ?_⟩
      have h1 := (finish_on rfl hf hwr hon' undef).1
      obtain ⟨tm', l, T', rfl, hs⟩ := hon fr' hon'
      exact ⟨_, h1, go _ _ _ _ _ _ (.inl hs)⟩
  cases t with
  | cut ops' l2 T =>
    obtain ⟨i, rest, rfl⟩ := hgo
    exact region _ _ _ _ rfl
  | app T =>
    cases td with
    | nil => exact absurd rfl hgo
    | cons it k =>
      have hit := hok it (by simp)
      have hsi : seesI H it = true := hsee it (by simp)
      have hsk : ∀ x ∈ k, seesI H x = true := fun x hx => hsee x (by simp [hx])
      have same : ∀ (k' : List Item), (∀ x ∈ k', seesI H x = true) → stepG.exec P main true ⟨f, tm, it :: k, [], .run, .normal, none⟩ cs none w = .go (gor ⟨f, tm, k', [], .run, .normal, none⟩ cs) w → (∀ tm' cs', SameT H z tm tm' → stepG.exec P main true ⟨f, tm', it :: (k ++ T), ds.1, .run, ds.2, none⟩ cs' none w = .go (gor ⟨f, tm', k' ++ T, ds.1, .run, ds.2, none⟩ cs') w) → _ := fun k' hk' h1 h2 =>
        (show (∃ f1, g1 = gor f1 cs ∧ (f1.mode = .run ∨ f1.mode = .returning) ∧ f1.defers = [] ∧ f1.kind = .normal ∧ f1.roundOf = none ∧ (Tail.app T).Fits f1.todo ∧ (∀ x ∈ f1.todo, seesI H x = true) ∧ ∀ fr' cs', OnR H z (.app T) ds ⟨f, tm, it :: k, [], .run, .normal, none⟩ fr' → ∃ f1', OnR H z (.app T) ds f1 f1' ∧ stepG.exec P main true fr' cs' none w = .go (gor f1' cs') w1 es) ∨
          (∃ f1 ops i rest k2, g1 = gor f1 (⟨f, tm, it :: k, [], .run, .normal, none⟩ :: cs) ∧ it :: k = .inRegion ops (i :: rest) :: k2 ∧ ∀ fr' cs', OnR H z (.app T) ds ⟨f, tm, it :: k, [], .run, .normal, none⟩ fr' → stepG.exec P main true fr' cs' none w = .go (gor f1 (fr' :: cs')) w1 es) from by
          rw [h1] at e
          injection e with e1 e2 e3
          subst e1 e2 e3
          refine .inl ⟨_, rfl, .inl rfl, rfl, rfl, rfl, trivial, hk', ?_⟩
          rintro fr' cs' ⟨tm', rfl, hs⟩
          exact ⟨_, ⟨tm', rfl, hs⟩, h2 tm' cs' hs⟩)
      have two : ∀ (a b : Item), seesI H a = true → seesI H b = true → ∀ x ∈ (a :: b :: k), seesI H x = true := fun a b ha hb x hx => by
        rcases List.mem_cons.1 hx with rfl | hx
        · exact ha
        · rcases List.mem_cons.1 hx with rfl | hx
          · exact hb
          · exact hsk x hx
      have one : ∀ (a : Item), seesI H a = true → ∀ x ∈ (a :: k), seesI H x = true := fun a ha x hx => by
        rcases List.mem_cons.1 hx with rfl | hx
        · exact ha
        · exact hsk x hx
      cases it with
      | inBlock id => exact same k hsk rfl fun _ _ _ => rfl
      | inScope b => exact same k hsk rfl fun _ _ _ => rfl
      | inLoop b => exact same (.code b :: .inLoop b :: k) (two _ _ hsi hsi) rfl fun _ _ _ => rfl
      | inRegion ops todo =>
        cases todo with
        | nil => exact same k hsk rfl fun _ _ _ => rfl
        | cons i rest => exact region _ _ _ _ rfl
      | code c =>
        cases c with
        | skip => exact same k hsk rfl fun _ _ _ => rfl
        | label l => exact same k hsk rfl fun _ _ _ => rfl
        | ret =>
          have h1 : stepG.exec P main true ⟨f, tm, .code .ret :: k, [], .run, .normal, none⟩ cs none w = .go (gor ⟨f, tm, .code .ret :: k, [], .returning, .normal, none⟩ cs) w := rfl
          rw [h1] at e
          injection e with e1 e2 e3
          subst e1 e2 e3
          refine .inl ⟨_, rfl, .inr rfl, rfl, rfl, rfl, trivial, hsee, ?_⟩
          rintro fr' cs' ⟨tm', rfl, hs⟩
          exact ⟨_, ⟨tm', rfl, hs⟩, rfl⟩
        | seq a b =>
          have hab : seesC H (.seq a b) = true := hsi
          simp only [seesC, Bool.and_eq_true] at hab
          exact same (.code a :: .code b :: k) (two (.code a) (.code b) hab.1 hab.2) rfl fun _ _ _ => rfl
        | block id b => exact same (.code b :: .inBlock id :: k) (two (.code b) (.inBlock id) hsi rfl) rfl fun _ _ _ => rfl
        | loop b => exact same (.code b :: .inLoop b :: k) (two (.code b) (.inLoop b) hsi hsi) rfl fun _ _ _ => rfl
        | scope b => exact same (.code b :: .inScope b :: k) (two (.code b) (.inScope b) hsi hsi) rfl fun _ _ _ => rfl
        | cond x a b =>
          have hab : seesC H (.cond x a b) = true := hsi
          simp only [seesC, Bool.and_eq_true] at hab
          have hx : ∀ tm2 ds2 kd2 k2, SameT H z tm tm2 ∨ tm2 = tm → Frame.eval ⟨f, tm2, .code (.cond x a b) :: k2, ds2, .run, kd2, none⟩ x = Frame.eval ⟨f, tm, .code (.cond x a b) :: k, [], .run, .normal, none⟩ x := fun tm2 ds2 kd2 k2 hs => by
            rcases hs with hs | rfl
            · exact eval_sees (fr := ⟨f, tm, .code (.cond x a b) :: k, [], .run, .normal, none⟩) hs hab.1.1
            · cases x <;> rfl
          cases hv : Frame.eval ⟨f, tm, .code (.cond x a b) :: k, [], .run, .normal, none⟩ x with
          | bool g =>
            have go : ∀ ds2 kd2 cs' k2 tm2, SameT H z tm tm2 ∨ tm2 = tm → stepG.exec P main true ⟨f, tm2, .code (.cond x a b) :: k2, ds2, .run, kd2, none⟩ cs' none w = .go (gor ⟨f, tm2, .code (if g then a else b) :: k2, ds2, .run, kd2, none⟩ cs') w := fun ds2 kd2 cs' k2 tm2 hs => by
              unfold stepG.exec
              simp only [hx tm2 ds2 kd2 k2 hs, hv]
              rfl
            refine same (.code (if g then a else b) :: k) (one (.code (if g then a else b)) ?_) (go _ _ _ _ _ (.inr rfl)) fun tm' cs' hs => go _ _ _ _ _ (.inl hs)
            cases g
            · exact hab.2
            · exact hab.1.2
          | _ =>
            unfold stepG.exec at e
            simp only [hv] at e
            cases e
        | exit id =>
          cases hk : exitTo id k with
          | none =>
            unfold stepG.exec at e
            simp only [hk] at e
            cases e
          | some k' =>
            refine same k' (exitTo_sees hk hsk) ?_ fun tm' cs' hs => ?_
            · unfold stepG.exec; simp only [hk]; rfl
            · unfold stepG.exec; simp only [exitTo_app hk]; rfl
        | goto l =>
          cases hk : gotoIn l k with
          | none =>
            unfold stepG.exec at e
            simp only [hk] at e
            cases e
          | some k' =>
            refine same k' (gotoIn_sees hk hsk) ?_ fun tm' cs' hs => ?_
            · unfold stepG.exec; simp only [hk]; rfl
            · unfold stepG.exec; simp only [gotoIn_app hk]; rfl
        | rangeFunc f p a b => cases hit
        | refuse m => unfold stepG.exec at e; cases e
        | region id ops draw =>
          have hir : ∀ l, seesI H (.inRegion ops l) = true := fun l => by
            have hreg : seesC H (.region id ops draw) = true := hsi
            simp only [seesC, List.all_eq_true] at hreg
            simp only [seesI, Bool.and_eq_true, List.all_eq_true]
            refine ⟨fun o ho => ?_, fun i _ => ?_⟩
            · have := hreg o ho
              simp only [seesO, Bool.and_eq_true] at this
              exact this.2
            · cases e : ops[i]? with
              | none => rfl
              | some o => exact hreg o (by simp; exact Array.mem_of_getElem? e)
          cases draw with
          | false => exact same (.inRegion ops (List.range ops.size) :: k) (one _ (hir _)) rfl fun _ _ _ => rfl
          | true =>
            have go : ∀ ds2 kd2 cs' k2 tm2, stepG.exec P main true ⟨f, tm2, .code (.region id ops true) :: k2, ds2, .run, kd2, none⟩ cs' none w = .go (gor ⟨f, tm2, .inRegion ops (Region.schedule (P.follows .mixedOrders) ops ((Question.order f id).cut (w.tape w.drawn (.order f id)))) :: k2, ds2, .run, kd2, none⟩ cs') { w with drawn := w.drawn + 1 } := fun ds2 kd2 cs' k2 tm2 => by
              have hq : (Question.order f id).forced = false := rfl
              unfold stepG.exec
              simp only [Bool.not_true, Bool.false_eq_true, if_false, Go.choose, Sem.run, hq]
              rfl
            rw [go] at e
            injection e with e1 e2 e3
            subst e1 e2 e3
            refine .inl ⟨_, rfl, .inl rfl, rfl, rfl, rfl, trivial, one _ (hir _), ?_⟩
            rintro fr' cs' ⟨tm', rfl, hs⟩
            exact ⟨_, ⟨tm', rfl, hs⟩, go _ _ _ _ _⟩
      | _ => cases hit
end
end Ren
end Go.Proofs.YtdkpbobglogmoaaGreat
namespace Go.Proofs.YtdkpbobglogmoaaGreat
open Go Go.Conc
namespace Ren
structure Rely (Cold : Nat → Prop) (Liv : World → Prop) (O : Nat → Prop) (w w1 : World) : Prop where
  size : w.heap.size ≤ w1.heap.size
  own : ∀ b, O b → w1.heap[b]? = w.heap[b]?
  cold : ∀ b, Cold b → w1.heap[b]? = w.heap[b]?
  rest : w1.os = w.os ∧ w1.output = w.output
  liv : Liv w → Liv w1
def New (w w' : World) (b : Nat) : Prop := w.heap.size ≤ b ∧ b < w'.heap.size
def With (O : Nat → Prop) (w w' : World) (b : Nat) : Prop := O b ∨ New w w' b
structure EvO (Cold O Say : Nat → Prop) (n : Nat) (e : Event) : Prop where
  touch : ∀ x, (MemAct.ofEvent e).touch? = some x → ∃ b, Loc.blk x.loc = some b ∧ (O b ∨ (Cold b ∧ x.write = false) ∨ (Say b ∧ x.kind = .said))
  still : ∀ a, e.loc ≠ .mark (.release a)
  low : (MemAct.ofEvent e).low n
structure Did (Cold O Say : Nat → Prop) (w w' : World) (es : Array Event) : Prop where
  size : w.heap.size ≤ w'.heap.size
  kept : ∀ b, b < w.heap.size → ¬ O b → w'.heap[b]? = w.heap[b]?
  rest : w'.tape = w.tape ∧ w'.os = w.os ∧ w'.output = w.output
  evs : ∀ e ∈ es, EvO Cold (With O w w') Say w'.heap.size e
structure Terms where
  P : Program
  main : Bool
  Cold : Nat → Prop
  Liv : World → Prop
  Say : Nat → Prop
  Calm : Prop := False
  Hush : Prop := False
inductive Gt (T : Terms) (Stop : Nat → (Nat → Prop) → Goroutine → World → Prop) : Nat → (Nat → Prop) → Goroutine → World → Prop
  | stop {d : Nat} {O : Nat → Prop} {g : Goroutine} {w : World} : (∀ w1, Rely T.Cold T.Liv O w w1 → Stop d O g w1) → Gt T Stop d O g w
  | step {d : Nat} {O : Nat → Prop} {g : Goroutine} {w : World} : g.status = .running → (∀ w1, Rely T.Cold T.Liv O w w1 → ∃ g' w' es, stepG T.P T.main g w1 = .go g' w' es ∧ Did T.Cold O T.Say w1 w' es ∧ (T.Liv w1 → T.Liv w') ∧ (T.Calm → w'.heap.size = w1.heap.size) ∧ (T.Hush → ∀ e ∈ es, e.loc ≠ .mark .disable ∧ e.loc ≠ .mark .enable)) →
      (∀ w1 g' w' es, Rely T.Cold T.Liv O w w1 → stepG T.P T.main g w1 = .go g' w' es → Gt T Stop (deafBehind d es) (With O w1 w') g' w') → Gt T Stop d O g w
inductive Rk where
  | leaf
  | node (f : World → Rk)
def Rk.sub (a b : Rk) : Prop := match b with
  | .leaf => False
  | .node f => ∃ w, a = f w
theorem Rk.acc : ∀ r : Rk, Acc Rk.sub r
  | .leaf => ⟨_, fun y h => h.elim⟩
  | .node f => ⟨_, fun y h => by obtain ⟨w, rfl⟩ := h; exact Rk.acc (f w)⟩
inductive Gk (T : Terms) (Stop : Nat → (Nat → Prop) → Goroutine → World → Prop) : Rk → Nat → (Nat → Prop) → Goroutine → World → Prop
  | stop {d : Nat} {O : Nat → Prop} {g : Goroutine} {w : World} : (∀ w1, Rely T.Cold T.Liv O w w1 → Stop d O g w1) → Gk T Stop .leaf d O g w
  | step {f : World → Rk} {d : Nat} {O : Nat → Prop} {g : Goroutine} {w : World} : g.status = .running → (∀ w1, Rely T.Cold T.Liv O w w1 → ∃ g' w' es, stepG T.P T.main g w1 = .go g' w' es ∧ Did T.Cold O T.Say w1 w' es ∧ (T.Liv w1 → T.Liv w') ∧ (T.Calm → w'.heap.size = w1.heap.size) ∧ (T.Hush → ∀ e ∈ es, e.loc ≠ .mark .disable ∧ e.loc ≠ .mark .enable)) →
      (∀ w1 g' w' es, Rely T.Cold T.Liv O w w1 → stepG T.P T.main g w1 = .go g' w' es → Gk T Stop (f w1) (deafBehind d es) (With O w1 w') g' w') → Gk T Stop (.node f) d O g w
section
variable {T : Terms} {Cold : Nat → Prop} {Liv : World → Prop} {Stop : Nat → (Nat → Prop) → Goroutine → World → Prop} {d : Nat} {O : Nat → Prop} {g : Goroutine} {w w1 w2 : World}
theorem Rely.refl (w : World) : Rely Cold Liv O w w := ⟨Nat.le_refl _, fun _ _ => rfl, fun _ _ => rfl, ⟨rfl, rfl⟩, id⟩
theorem Rely.trans (h : Rely Cold Liv O w w1) (k : Rely Cold Liv O w1 w2) : Rely Cold Liv O w w2 :=
  ⟨Nat.le_trans h.size k.size, fun b hb => (k.own b hb).trans (h.own b hb), fun b hb => (k.cold b hb).trans (h.cold b hb), ⟨k.rest.1.trans h.rest.1, k.rest.2.trans h.rest.2⟩, fun x => k.liv (h.liv x)⟩
theorem Gt.rely (h : Gt T Stop d O g w) (r : Rely T.Cold T.Liv O w w1) : Gt T Stop d O g w1 := by
  cases h with
  | stop h => exact .stop fun w2 r2 => h w2 (r.trans r2)
  | step h1 h2 h3 => exact .step h1 (fun w2 r2 => h2 w2 (r.trans r2)) (fun w2 g' w' es r2 e => h3 w2 g' w' es (r.trans r2) e)
theorem Gk.rely {r : Rk} (h : Gk T Stop r d O g w) (rl : Rely T.Cold T.Liv O w w1) : Gk T Stop r d O g w1 := by
  cases h with
  | stop h => exact .stop fun w2 r2 => h w2 (rl.trans r2)
  | step h1 h2 h3 => exact .step h1 (fun w2 r2 => h2 w2 (rl.trans r2)) (fun w2 g' w' es r2 e => h3 w2 g' w' es (rl.trans r2) e)
theorem Gt.rank (h : Gt T Stop d O g w) : ∃ r, Gk T Stop r d O g w := by
  induction h with
  | stop h => exact ⟨.leaf, .stop h⟩
  | @step d O g w h1 h2 h3 ih =>
    have key : ∀ w1, ∃ r, ∀ g' w' es, Rely T.Cold T.Liv O w w1 → stepG T.P T.main g w1 = .go g' w' es → Gk T Stop r (deafBehind d es) (With O w1 w') g' w' := by
      intro w1
      by_cases hr : Rely T.Cold T.Liv O w w1
      · obtain ⟨g', w', es, e, _⟩ := h2 w1 hr
        obtain ⟨r, k⟩ := ih w1 g' w' es hr e
        refine ⟨r, fun g2 w2 es2 _ e2 => ?_⟩
        rw [e] at e2
        injection e2 with q1 q2 q3
        subst q1 q2 q3
        exact k
      · exact ⟨.leaf, fun g' w' es h => absurd h hr⟩
    exact ⟨.node fun w1 => (key w1).choose, .step h1 h2 fun w1 g' w' es r e => (key w1).choose_spec g' w' es r e⟩
theorem with_self (O : Nat → Prop) (w : World) : With O w w = O := by
  funext b
  exact propext ⟨fun h => h.elim id fun h => absurd h.1 (Nat.not_le.2 h.2), .inl⟩
theorem Gt.idle {g' : Goroutine} (hs : g.status = .running) (h : ∀ w1, Rely T.Cold T.Liv O w w1 → stepG T.P T.main g w1 = .go g' w1) (k : Gt T Stop d O g' w) : Gt T Stop d O g w := by
  refine .step hs (fun w1 r => ⟨g', w1, #[], h w1 r, ⟨Nat.le_refl _, fun _ _ _ => rfl, ⟨rfl, rfl, rfl⟩, fun e he => by simp at he⟩, id, fun _ => rfl, fun _ e he => by simp at he⟩) fun w1 g2 w2 es r e => ?_
  rw [h w1 r] at e
  injection e with q1 q2 q3
  subst q1 q2 q3
  rw [with_self]
  exact k.rely r
theorem Gt.mark {g' : Goroutine} {m : Mark} (hm : (∀ a, m ≠ .release a) ∧ (∀ a, m = .read a ∨ m = .write a → T.Say a.block ∧ ∀ w1, T.Liv w1 → a.block < w1.heap.size) ∧ (∀ a, m ≠ .acquire a) ∧ (∀ a, m ≠ .releaseMerge a)) (hL : T.Liv w) (hH : ¬ T.Hush) (hs : g.status = .running)
    (h : ∀ w1, Rely T.Cold T.Liv O w w1 → stepG T.P T.main g w1 = .go g' w1 #[⟨.mark m, false, true⟩]) (k : Gt T Stop (deafBehind d #[⟨.mark m, false, true⟩]) O g' w) : Gt T Stop d O g w := by
  refine .step hs (fun w1 r => ⟨g', w1, _, h w1 r, ⟨Nat.le_refl _, fun _ _ _ => rfl, ⟨rfl, rfl, rfl⟩, fun e he => ?_⟩, id, fun _ => rfl, fun h => absurd h hH⟩) fun w1 g2 w2 es r e => ?_
  · simp only [List.mem_toArray, List.mem_cons, List.not_mem_nil, or_false] at he
    subst he
    refine ⟨fun x hx => ?_, fun a e => ?_, ?_⟩
    · cases m with
      | read a => cases hx; exact ⟨_, rfl, .inr (.inr ⟨(hm.2.1 a (.inl rfl)).1, rfl⟩)⟩
      | write a => cases hx; exact ⟨_, rfl, .inr (.inr ⟨(hm.2.1 a (.inr rfl)).1, rfl⟩)⟩
      | _ => cases hx
    · cases e
      exact hm.1 a rfl
    · cases m with
      | read a => exact (hm.2.1 a (.inl rfl)).2 w1 (r.liv hL)
      | write a => exact (hm.2.1 a (.inr rfl)).2 w1 (r.liv hL)
      | acquire a => exact absurd rfl (hm.2.2.1 a)
      | releaseMerge a => exact absurd rfl (hm.2.2.2 a)
      | release a => exact absurd rfl (hm.1 a)
      | _ => trivial
  · rw [h w1 r] at e
    injection e with q1 q2 q3
    subst q1 q2 q3
    rw [with_self]
    exact k.rely r
theorem Gt.of_goes {S : Goroutine → World → Prop} : ∀ {n : Nat} {g : Goroutine} {w : World}, T.Liv w → Goes T.P T.main (fun w w1 => T.Liv w → T.Liv w1) Go.ConcR.DC0 S n g w → (∀ g' w1, S g' w1 → T.Liv w1 → Rely T.Cold T.Liv O w w1 → Gt T Stop d O g' w1) → Gt T Stop d O g w := by
  intro n
  induction n with
  | zero =>
    intro g w hL h hs
    exact hs g w (h w id) hL (Rely.refl _)
  | succ n ih =>
    intro g w hL h hs
    rcases h with h | ⟨h1, h2⟩
    · exact hs g w (h w id) hL (Rely.refl _)
    · refine .step h1 (fun w1 r => ?_) fun w1 g' w' es r e => ?_
      · have := h2 w1 r.liv
        revert this
        cases e : stepG T.P T.main g w1 with
        | go g' w' es =>
          rintro ⟨⟨d1, d2⟩, _⟩
          subst d1 d2
          exact ⟨g', w', #[], rfl, ⟨Nat.le_refl _, fun _ _ _ => rfl, ⟨rfl, rfl, rfl⟩, fun e he => by simp at he⟩, id, fun _ => rfl, fun _ e he => by simp at he⟩
        | _ => exact fun x => x.elim
      · have := h2 w1 r.liv
        rw [e] at this
        obtain ⟨⟨d1, d2⟩, hg⟩ := this
        subst d1 d2
        rw [with_self]
        exact ih (r.liv hL) hg fun g2 w2 hs2 hL2 r2 => hs g2 w2 hs2 hL2 (r.trans r2)
end
structure Since (Cold : Nat → Prop) (Liv : World → Prop) (w w1 : World) : Prop where
  size : w.heap.size ≤ w1.heap.size
  cold : ∀ b, Cold b → w1.heap[b]? = w.heap[b]?
  rest : w1.os = w.os ∧ w1.output = w.output
  liv : Liv w → Liv w1
theorem Since.refl {Cold : Nat → Prop} {Liv : World → Prop} (w : World) : Since Cold Liv w w := ⟨Nat.le_refl _, fun _ _ => rfl, ⟨rfl, rfl⟩, id⟩
theorem Since.trans {Cold : Nat → Prop} {Liv : World → Prop} {w w1 w2 : World} (h : Since Cold Liv w w1) (k : Since Cold Liv w1 w2) : Since Cold Liv w w2 :=
  ⟨Nat.le_trans h.size k.size, fun b hb => (k.cold b hb).trans (h.cold b hb), ⟨k.rest.1.trans h.rest.1, k.rest.2.trans h.rest.2⟩, fun x => k.liv (h.liv x)⟩
theorem Rely.since {Cold : Nat → Prop} {Liv : World → Prop} {O : Nat → Prop} {w w1 : World} (h : Rely Cold Liv O w w1) : Since Cold Liv w w1 := ⟨h.size, h.cold, h.rest, h.liv⟩
section
variable {P : Program} {gl fs : Nat → Bool} {Z : Env} {R : Rel}
theorem WR.frame {w w' w2 : World} (h : WR Z R w w') (hs : w'.heap.size ≤ w2.heap.size) (hb : ∀ a b, R a b → w2.heap[b]? = w'.heap[b]?) : WR Z R (w.re w2.tape w2.drawn) w2 :=
  ⟨h.fn, h.inj, fun a b x => by obtain ⟨o, p, e1, e2, e3⟩ := h.obj a b x; exact ⟨o, p, e1, (hb a b x).trans e2, e3⟩, h.ice, rfl, rfl, h.glob, h.big, Nat.le_trans h.big' hs⟩
theorem sinks_no_tree {Post : Value → World → Prop} {g : Goroutine} {w : World} (h : Tree P (Home P Post) g w) : ¬ Sinks P g := by
  induction h with
  | @stop g w hs =>
    intro hk
    obtain ⟨v, e, _⟩ := hs
    obtain ⟨c, hc⟩ := hk.mode
    rw [e] at hc
    cases hc
  | @step g w h1 _ ih =>
    intro hk
    obtain ⟨g1, w1, es, e⟩ := h1 w.tape w.drawn
    rcases hk.step (w := w.re w.tape w.drawn) with ⟨g2, e2, h2⟩ | ⟨o, w2, es2, e2⟩
    · exact ih _ _ _ _ _ e2 h2
    · rw [e] at e2; cases e2
theorem home_post {Post : Value → World → Prop} {v : Value} {w : World} (h : Tree P (Home P Post) (gor ((door P).finish v) []) w) : Post v w := by
  cases h with
  | stop hs =>
    obtain ⟨u, e, hp⟩ := hs
    have e2 : ([Item.extern "fmt's door" (#[].push v)] : List Item) = [Item.extern "fmt's door" (#[].push u)] := congrArg (fun g => g.frame.todo) e
    have e3 : v = u := by simpa using e2
    exact e3 ▸ hp
  | step h1 h2 =>
    obtain ⟨g1, w1, es, e⟩ := h1 w.tape w.drawn
    exact absurd e (home_ends _ _ _)
theorem evs_own {Cold O Say : Nat → Prop} {R1 : Rel} {w1' wh1 : World} (hW : WR Z R1 wh1 w1')
    (hR : ∀ a b, R1 a b → (Z a ∧ Cold b) ∨ O b) {es es' : Array Event} (he : EsR Z R1 es es') : ∀ e ∈ es', EvO Cold O Say w1'.heap.size e ∧ e.loc ≠ .mark .disable ∧ e.loc ≠ .mark .enable := by
  intro e' hm
  obtain ⟨i, hi, rfl⟩ := Array.mem_iff_getElem.1 hm
  have hi0 : i < es.size := by rw [he.1]; exact hi
  have key := he.2 i _ _ (Array.getElem?_eq_getElem hi0) (Array.getElem?_eq_getElem hi)
  generalize es[i] = e at key
  generalize es'[i] = e' at key
  obtain ⟨l, x, sy⟩ := e
  obtain ⟨l', x', sy'⟩ := e'
  obtain ⟨h1, h2, h3, h4⟩ := key
  simp only at h1 h2 h3 h4
  subst h2 h3
  cases h1 with
  | @cell a b hab =>
    refine ⟨⟨fun t ht => ⟨b.block, ?_, ?_⟩, fun a h => (by cases h), ?_⟩, (by intro h; cases h), (by intro h; cases h)⟩
    · simp only [MemAct.ofEvent, MemAct.touch?, Option.some.injEq] at ht
      subst ht
      rfl
    · simp only [MemAct.ofEvent, MemAct.touch?, Option.some.injEq] at ht
      subst ht
      rcases hR _ _ hab.1 with ⟨hz, hc⟩ | ho
      · refine .inr (.inl ⟨hc, ?_⟩)
        cases hx : x with
        | false => rfl
        | true => exact absurd hz (h4 hx _ rfl)
      · exact .inl ho
    · exact (hW.lt hab.1).2
  | @obj a b hab =>
    refine ⟨⟨fun t ht => ⟨b, ?_, ?_⟩, fun a h => (by cases h), ?_⟩, (by intro h; cases h), (by intro h; cases h)⟩
    · unfold MemAct.ofEvent at ht
      split at ht
      · cases ht
      · rename_i hh; cases hh
      · simp only [MemAct.touch?, Option.some.injEq] at ht
        subst ht
        rfl
    · rcases hR _ _ hab with ⟨hz, hc⟩ | ho
      · refine .inr (.inl ⟨hc, ?_⟩)
        unfold MemAct.ofEvent at ht
        split at ht
        · cases ht
        · rename_i hh; cases hh
        · simp only [MemAct.touch?, Option.some.injEq] at ht
          subst ht
          cases hx : x with
          | false => rfl
          | true => exact absurd hz (h4 hx _ rfl)
      · exact .inl ho
    · unfold MemAct.ofEvent
      split
      · rename_i hh; cases hh; exact (hW.lt hab).2
      · rename_i hh; cases hh
      · exact (hW.lt hab).2
  | ext f => exact ⟨⟨fun t ht => by simp [MemAct.ofEvent, MemAct.touch?] at ht, fun a h => (by cases h), trivial⟩, (by intro h; cases h), (by intro h; cases h)⟩
  | noRoom => exact ⟨⟨fun t ht => by simp [MemAct.ofEvent, MemAct.touch?] at ht, fun a h => (by cases h), trivial⟩, (by intro h; cases h), (by intro h; cases h)⟩
end
end Ren
end Go.Proofs.YtdkpbobglogmoaaGreat
