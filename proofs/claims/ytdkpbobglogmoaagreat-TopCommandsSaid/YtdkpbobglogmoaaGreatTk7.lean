/- Parts of the proof of TopCommandsProof: PoolPiece PoolSeg PoolMirror PoolCall PoolGhost. -/
import Derived.Calls
import Derived.Test.YtdkpbobglogmoaaGreatTk6
set_option linter.unusedVariables false
set_option linter.unusedSimpArgs false
set_option maxRecDepth 100000
set_option maxHeartbeats 32000000
namespace Go.Proofs.YtdkpbobglogmoaaGreat
open Go Go.Conc
namespace Ren
section
variable {P : Program} {gl fs : Nat → Bool} {Z : Env} {R : Rel}
theorem stepG_run {main : Bool} {fr : Frame} {cs : List Frame} {w : World} (hm : fr.mode = .run) : stepG P main (gor fr cs) w = stepG.exec P main true fr cs none w := by
  unfold stepG gor
  simp only [hm]
theorem tame_of (hg : P.globals.size ≤ Z.glob) (HF : Frag P gl fs Z) (hgl : ∀ x, gl x = true → R x x) {B : Frame} {K : List Frame} {gh gv gh1 : Goroutine} {wh w wh1 : World} {esh : Array Event}
    (h : GoR P gl fs B K R gh gv) (hw : WR Z R wh w) (eh : stepG P true gh wh = .go gh1 wh1 esh) (hm : gv.frame.mode = .run) (np : gh1.frame.mode = .run ∨ gh1.frame.mode = .returning) :
    ∀ o, gv.frame.oper? = some o → ∀ ops i rest k, gv.frame.todo = .inRegion ops (i :: rest) :: k → ((ops[i]?).map (Region.wanted · (yielded ops gv.frame.tmps))).getD false = true → ∃ x w1 es, (execOp gv.frame.eval o).runT P w #[] = (.ok x w1, es) ∧ Tame x := by
  intro o ho ops i rest k ht hwant
  obtain ⟨fr, cs, st, dy, off⟩ := gh
  obtain ⟨fr', cs', st', dy', off'⟩ := gv
  obtain ⟨hl, hf, ⟨h1, h2⟩, ⟨h3, h4⟩, h5, h6⟩ := h
  simp only at h1 h2 h3 h4 h5 h6 hl hf hm ho ht hwant np
  subst h1 h2 h3 h4 h5 h6
  have hmg : fr.mode = .run := hf.mode.trans hm
  have htg : fr.todo = .inRegion ops (i :: rest) :: k := hf.todo.trans ht
  have hog : ops[i]? = some o := by
    unfold Frame.oper? at ho
    rw [ht] at ho
    exact ho
  have hoo : okOp P gl fs o.op = true := by
    have := hf.ok (.inRegion ops (i :: rest)) (by rw [htg]; simp)
    simp only [okItem, List.all_cons, Bool.and_eq_true, hog, Option.all_some] at this
    exact this.1
  have hs := (sim_execOp (fs := fs) hg HF.ext hgl (hf.rho hgl) (fun _ => rfl) (fun _ => rfl) (fun _ => rfl) (o := o) hoo).met R (.refl _) wh w #[] #[] hw .empty
  have hwg : ((ops[i]?).map (Region.wanted · (yielded ops fr.tmps))).getD false = true := by rw [yielded_alike hf.tmps ops]; exact hwant
  have e1 : stepG.exec P true true fr cs none wh = .go gh1 wh1 esh := by rw [← stepG_run hmg]; exact eh
  have e2 : stepG.apply P true fr cs none (execOp fr.eval o) wh = .go gh1 wh1 esh := by
    rw [← e1]
    unfold stepG.exec
    simp only [htg, hwg, if_true]
    unfold stepG.oper
    simp only [Frame.oper?, htg, hog, hf.round.1]
  have hk : (fr.kind == CallKind.early) = false := by rw [hf.kind.1]; rfl
  unfold stepG.apply at e2
  simp only [if_true] at e2
  rw [htg, hk] at e2
  simp only [Bool.false_eq_true, if_false] at e2
  revert hs e2
  rcases (execOp fr.eval o).runT P wh #[] with ⟨r, es⟩
  cases r with
  | ok x w1 =>
    rintro ⟨R1, y, w1', es', e, t, hxy, he⟩ e2
    refine ⟨y, w1', es', e, ?_⟩
    cases hxy with
    | value hv => exact .value _
    | skip => exact .skip
    | enter f hf hcd => exact .enter _ _
  | halt hh w1 =>
    cases hh with
    | panic v =>
      intro _ e2
      simp only [GStep.after] at e2
      injection e2 with q1 q2 q3
      subst q1
      have : ∃ c', (fr.raise [{ v, recovered := false }]).mode = .panicking c' := raise_mode _ _
      obtain ⟨c', hc⟩ := this
      simp only at np
      rw [hc] at np
      rcases np with np | np <;> cases np
    | unsupported u =>
      intro hd e2
      cases u with
      | initOrder g => exact hd.elim
      | _ => cases e2
    | stuck m => intro _ e2; cases e2
    | _ => intro hd; exact hd.elim
variable (P) in
inductive ExtG (H : Nat → Bool) (z : Array Value) (t : Tail) (ds : Over) (K : List Frame) : Goroutine → Goroutine → Prop
  | top {fr fr' : Frame} : (fr.mode = .run ∨ fr.mode = .returning) → t.Fits fr.todo → (∀ x ∈ fr.todo, seesI H x = true) → OnR H z t ds fr fr' → ExtG H z t ds K (gor fr [door P]) (gor fr' K)
  | deep {fr b b' : Frame} {l : List Frame} {ops : Array Oper} {i : Nat} {rest : List Nat} {k : List Item} : b.mode = .run → b.todo = .inRegion ops (i :: rest) :: k → t.Fits b.todo → (∀ x ∈ b.todo, seesI H x = true) → OnR H z t ds b b' → ExtG H z t ds K (gor fr (l ++ [b, door P])) (gor fr (l ++ b' :: K))
theorem same_refl (tm : Array Value) : SameT (fun _ => false) tm tm tm := ⟨rfl, fun _ _ => rfl, fun _ h => by cases h⟩
theorem same_eq {z tm tm' : Array Value} (h : SameT (fun _ => false) z tm tm') : tm' = tm := Array.ext_getElem? fun i => h.at_ i rfl
theorem on_nil {fr : Frame} (h : fr.defers = []) (hk : fr.kind = .normal) : OnR (fun _ => false) fr.tmps (.app []) ([], .normal) fr fr := by
  obtain ⟨f, tm, td, d, m, k, r⟩ := fr
  simp only at h hk
  subst h hk
  exact ⟨tm, by simp [Tail.glue], same_refl tm⟩
theorem on_eq {z : Array Value} {fr fr' : Frame} (hd : fr.defers = []) (hk : fr.kind = .normal) (h : OnR (fun _ => false) z (.app []) ([], .normal) fr fr') : fr' = fr := by
  obtain ⟨tm', rfl, hs⟩ := h
  obtain ⟨f, tm, td, d, m, k, r⟩ := fr
  simp only at hd hs hk
  subst hd hk
  rw [same_eq hs]
  simp [Tail.glue]
theorem sees_all {c : Code} : okCode P gl fs c = true → seesC (fun _ => false) c = true := by
  have ops : ∀ (ops : Array Oper), (ops.toList.all fun o => seesO (fun _ => false) o) = true := fun ops => by
    rw [List.all_eq_true]
    intro o _
    have : writes (fun _ => false) o = true := by unfold writes; cases o.dst <;> rfl
    simp only [seesO, this, Bool.and_true, List.all_eq_true]
    intro x _
    cases x <;> rfl
  induction c with
  | seq a b iha ihb => intro h; simp only [okCode, Bool.and_eq_true] at h; simp only [seesC, Bool.and_eq_true]; exact ⟨iha h.1, ihb h.2⟩
  | cond x a b iha ihb => intro h; simp only [okCode, Bool.and_eq_true] at h; simp only [seesC, Bool.and_eq_true]; exact ⟨⟨by cases x <;> rfl, iha h.1.2⟩, ihb h.2⟩
  | block _ c ih => intro h; exact ih h
  | loop c ih => intro h; exact ih h
  | scope c ih => intro h; exact ih h
  | region id o d => intro _; exact ops o
  | rangeFunc => intro h; cases h
  | _ => intro _; rfl
theorem sees_item {x : Item} : okItem P gl fs x = true → seesI (fun _ => false) x = true := by
  intro h
  have wr : ∀ o : Oper, writes (fun _ => false) o = true := fun o => by unfold writes; cases o.dst <;> rfl
  cases x with
  | code c => exact sees_all h
  | inBlock _ => rfl
  | inLoop c => exact sees_all h
  | inScope c => exact sees_all h
  | inRegion ops l =>
    simp only [seesI, Bool.and_eq_true, List.all_eq_true]
    refine ⟨fun o _ => wr o, fun i _ => ?_⟩
    cases e : ops[i]? with
    | none => rfl
    | some o =>
      simp only [Option.all_some, seesO, wr o, Bool.and_true, List.all_eq_true]
      intro x _
      cases x <;> rfl
  | _ => cases h
theorem step_ext {main : Bool} {H : Nat → Bool} {z : Array Value} {t : Tail} {ds : Over} {K : List Frame} {gh gv gr g1 : Goroutine} {w w1 : World} {es : Array Event}
    (hkd : (ds.2 == CallKind.early) = false) (hG : GoR P gl fs (door P) [door P] R gh gv) (hE : ExtG P H z t ds K gv gr) (hgo : ∀ fr, gv = gor fr [door P] → fr.mode = .run ∧ t.Goes fr.todo)
    (tame : gv.frame.mode = .run → ∀ o, gv.frame.oper? = some o → ∀ ops i rest k, gv.frame.todo = .inRegion ops (i :: rest) :: k → ((ops[i]?).map (Region.wanted · (yielded ops gv.frame.tmps))).getD false = true → ∃ x w1 es, (execOp gv.frame.eval o).runT P w #[] = (.ok x w1, es) ∧ Tame x)
    (e : stepG P main gv w = .go g1 w1 es) : ∃ gr1, stepG P main gr w = .go gr1 w1 es ∧ ExtG P H z t ds K g1 gr1 := by
  have hf := hG.top
  cases hE with
  | @top fr fr' hm hfit hse hon =>
    obtain ⟨hr, hgoes⟩ := hgo fr rfl
    have hf : FrR P gl fs R gh.frame fr := hf
    rw [stepG_run hr] at e
    have hr' : fr'.mode = .run := by obtain ⟨tm', rfl, _⟩ := hon; exact hr
    rcases exec_tail (gl := gl) (fs := fs) (H := H) (z := z) (t := t) (ds := ds) hkd hr hf.defers.2 hf.kind.2 hf.round.2 (fun x hx => hf.ok x (hf.todo ▸ hx)) hse hfit hgoes (tame hr) e with ⟨f1, rfl, a1, a2, a3, a4, a5, a6, a7⟩ | ⟨f1, ops, i, rest, k, rfl, a1, a2⟩
    · obtain ⟨f1', h1, h2⟩ := a7 fr' K hon
      exact ⟨_, by rw [stepG_run hr']; exact h2, .top a1 a5 a6 h1⟩
    · exact ⟨_, by rw [stepG_run hr']; exact a2 fr' K hon, .deep (l := []) hr a1 hfit hse hon⟩
  | @deep fr b b' l ops i rest k hb hbt hbf hbs hbo =>
    have hf : FrR P gl fs R gh.frame fr := hf
    rcases hf.run with hr0 | hr0
    · have hr : fr.mode = .run := hf.mode ▸ hr0
      rw [stepG_run hr] at e
      by_cases htd : fr.todo = []
      · have go : ∀ cs, stepG.exec P main true fr cs none w = .go (gor { fr with mode := .returning } cs) w := fun cs => by
          unfold stepG.exec
          simp only [htd, hf.round.2]
          rfl
        rw [go] at e
        injection e with e1 e2 e3
        subst e1 e2 e3
        exact ⟨_, by rw [stepG_run hr, go], .deep hb hbt hbf hbs hbo⟩
      · have hok : ∀ x ∈ fr.todo, okItem P gl fs x = true := fun x hx => hf.ok x (hf.todo ▸ hx)
        rcases exec_tail (gl := gl) (fs := fs) (H := fun _ => false) (z := fr.tmps) (t := .app []) (ds := ([], .normal)) rfl hr hf.defers.2 hf.kind.2 hf.round.2 hok (fun x hx => sees_item (hok x hx)) trivial htd (tame hr) e with ⟨f1, rfl, a1, a2, a3, a4, a5, a6, a7⟩ | ⟨f1, ops', i', rest', k', rfl, a1, a2⟩
        · obtain ⟨f1', h1, h2⟩ := a7 fr (l ++ b' :: K) (on_nil hf.defers.2 hf.kind.2)
          rw [on_eq a2 a3 h1] at h2
          exact ⟨_, by rw [stepG_run hr]; exact h2, .deep hb hbt hbf hbs hbo⟩
        · exact ⟨_, by rw [stepG_run hr]; exact a2 fr (l ++ b' :: K) (on_nil hf.defers.2 hf.kind.2), .deep (l := fr :: l) hb hbt hbf hbs hbo⟩
    · have hr : fr.mode = .returning := hf.mode ▸ hr0
      obtain ⟨fn0, hfn0⟩ := hf.there
      have hfn : P.funcs[fr.fn]? = some fn0 := hf.fn ▸ hfn0
      have go : ∀ cs, stepG P main (gor fr cs) w = GStep.after (seen P fr.fn ((results fn0 fr.tmps).runT P w #[]).2) (match ((results fn0 fr.tmps).runT P w #[]).1 with
          | .ok v w => doReturn P main fr cs none v w
          | .halt (.stuck s) w => .ended (.stuck s (fr.pos P)) w
          | .halt _ w => .ended (.stuck "return: the result variables cannot be read" (fr.pos P)) w) := fun cs => by
        unfold stepG gor
        simp only [hr]
        unfold unwind
        simp only [hf.defers.2, hr, hfn]
        rcases (results fn0 fr.tmps).runT P w #[] with ⟨r, es⟩
        cases r with
        | ok v w => rfl
        | halt h w => cases h <;> rfl
      rw [go] at e
      simp only [go]
      revert e
      rcases (results fn0 fr.tmps).runT P w #[] with ⟨r, es2⟩
      cases r with
      | halt h w => intro e; cases h <;> cases e
      | ok v w2 =>
        have hkd : fr.kind = .normal := hf.kind.2
        have dr : ∀ c cs, doReturn P main fr (c :: cs) none v w2 = .go (gor (c.finish v) cs) w2 := fun c cs => by
          unfold doReturn
          dsimp only
          rw [hkd]
          rfl
        cases l with
        | nil =>
          intro e
          simp only [List.nil_append, dr, GStep.after] at e ⊢
          injection e with e1 e2 e3
          subst e1 e2 e3
          have hbi := hbs (.inRegion ops (i :: rest)) (by rw [hbt]; simp)
          simp only [seesI, List.all_cons, Bool.and_eq_true] at hbi
          obtain ⟨f1, f2, f3⟩ := finish_on (t := t) (ds := ds) hbt hbf hbi.1 hbo v
          refine ⟨_, rfl, .top (.inl (by unfold Frame.finish; rw [hbt]; exact hb)) f2 (fun x hx => ?_) f1⟩
          rw [f3] at hx
          rcases List.mem_cons.1 hx with rfl | hx
          · simp only [seesI, Bool.and_eq_true]; exact ⟨hbi.1, hbi.2.2⟩
          · exact hbs x (by rw [hbt]; simp [hx])
        | cons a l =>
          intro e
          simp only [List.cons_append, dr, GStep.after] at e ⊢
          injection e with e1 e2 e3
          subst e1 e2 e3
          exact ⟨_, rfl, .deep hb hbt hbf hbs hbo⟩
theorem gt_of_piece {T : Terms} {Stop : Nat → (Nat → Prop) → Goroutine → World → Prop} {H : Goroutine → World → Prop} {K : List Frame} {Hd : Nat → Bool} {z : Array Value} {t : Tail} {ds : Over} {d : Nat}
    (hkd : (ds.2 == CallKind.early) = false) {Av : Nat → Prop} (hAv : ∀ b, T.Cold b → Av b) (hT : T.P = P) (hcm : ¬ T.Calm) (hg : P.globals.size ≤ Z.glob) (HF : Frag P gl fs Z)
    (hliv : ∀ (O : Nat → Prop) w w' es, (∀ b, O b → ¬ Av b) → Did T.Cold O T.Say w w' es → T.Liv w → T.Liv w') (hsink : ∀ g w, Sinks P g → ¬ Tree P H g w)
    (ends : ∀ fr R gv w, GoR P gl fs (door P) [door P] R (gor fr [door P]) gv → (fr.todo = [] ∨ fr.mode = .returning) → Tree P H (gor fr [door P]) w → H (gor fr [door P]) w) :
    ∀ {gh : Goroutine} {wh : World}, Tree P H gh wh → ∀ {R : Rel} {O : Nat → Prop} {gv gr : Goroutine} {w : World}, (∀ x, gl x = true → R x x) → GoR P gl fs (door P) [door P] R gh gv → ExtG P Hd z t ds K gv gr → WR Z R wh w →
      (∀ a b, R a b → (Z a ∧ T.Cold b) ∨ O b) → (∀ b, O b → ¬ Av b) → (∀ b, Av b → b < w.heap.size) →
      (∀ R1 O1 gh1 gv1 gr1 wh1 w1, H gh1 wh1 → GoR P gl fs (door P) [door P] R1 gh1 gv1 → ExtG P Hd z t ds K gv1 gr1 → R.Le R1 → WR Z R1 wh1 w1 → (∀ a b, R1 a b → (Z a ∧ T.Cold b) ∨ O1 b) → (∀ b, O b → O1 b) → (∀ b, O1 b → ¬ Av b) → Since T.Cold T.Liv w w1 →
        Gt T Stop d O1 gr1 w1) →
      Gt T Stop d O gr w := by
  subst hT
  intro gh wh ht
  induction ht with
  | @stop gh wh hs =>
    intro R O gv gr w hgl hG hE hW hR hO hC hk
    exact hk R O gh gv gr wh w hs hG hE (.refl R) hW hR (fun b hb => hb) hO (.refl w)
  | @step gh wh h1 h2 ih =>
    intro R O gv gr w hgl hG hE hW hR hO hC hk
    have topG : ∀ fr, gv = gor fr [door T.P] → ∃ fh, gh = gor fh [door T.P] ∧ fh.todo = fr.todo ∧ fh.mode = fr.mode := fun fr e => by
      subst e
      obtain ⟨⟨l, m, q1, q2, q3⟩, q4, ⟨q5, _⟩, ⟨q6, _⟩, q7, _⟩ := hG
      cases q3 with
      | nil =>
        obtain ⟨fh, cs, st, dy, off⟩ := gh
        simp only at q1 q5 q6 q7
        subst q1 q5 q6 q7
        exact ⟨fh, rfl, q4.todo, q4.mode⟩
      | cons a _ c => simp [gor] at q2
    by_cases hend : ∃ fr, gv = gor fr [door T.P] ∧ (fr.todo = [] ∨ fr.mode = .returning)
    · obtain ⟨fr, e, he⟩ := hend
      obtain ⟨fh, rfl, e1, e2⟩ := topG fr e
      have hs := ends fh R gv wh hG (he.imp (fun x => e1.trans x) fun x => e2.trans x) (.step h1 h2)
      exact hk R O _ gv gr wh w hs hG hE (.refl R) hW hR (fun b hb => hb) hO (.refl w)
    by_cases hstut : ∃ fr ops l2 T2, gv = gor fr [door T.P] ∧ t = .cut ops l2 T2 ∧ fr.todo = [.inRegion ops []]
    · obtain ⟨fr, ops, l2, T2, rfl, rfl, htd⟩ := hstut
      obtain ⟨fh, rfl, e1, e2⟩ := topG fr rfl
      have hm : fr.mode = .run := by
        rcases hG.top.run with x | x
        · exact e2 ▸ x
        · exact absurd ⟨fr, rfl, .inr (e2 ▸ x)⟩ hend
      have hgo : stepG T.P true (gor fh [door T.P]) (wh.re wh.tape wh.drawn) = .go (gor { fh with todo := [] } [door T.P]) wh #[] := by
        rw [World.re_self, stepG_run (e2.trans hm)]
        unfold stepG.exec
        simp only [e1, htd]
        rfl
      refine ih _ _ _ _ _ hgo (R := R) (O := O) (gv := gor { fr with todo := [] } [door T.P]) (gr := gr) (w := w) hgl ?_ ?_ hW hR hO hC hk
      · exact ⟨hG.ls, ⟨hG.top.fn, hG.top.tmps, rfl, fun x hx => (by cases hx), hG.top.defers, hG.top.mode, hG.top.run, hG.top.kind, hG.top.round, hG.top.there⟩, ⟨rfl, rfl⟩, ⟨rfl, rfl⟩, ⟨rfl, rfl⟩⟩
      · have ex : ∀ gx, ExtG T.P Hd z (.cut ops l2 T2) ds K (gor fr [door T.P]) gx → ∃ fr', gx = gor fr' K ∧ OnR Hd z (.cut ops l2 T2) ds fr fr' := by
          intro gx hx
          generalize hgv : gor fr [door T.P] = gv at hx
          cases hx with
          | top _ _ _ ho => injection hgv with q1; subst q1; exact ⟨_, rfl, ho⟩
          | @deep fr b b' l _ _ _ _ => injection hgv with _ q2; have := congrArg List.length q2; simp at this
        obtain ⟨fr', rfl, tm', rfl, hs⟩ := ex gr hE
        refine .top (.inl hm) (.inl rfl) (fun x hx => by cases hx) ⟨tm', ?_, hs⟩
        simp only [htd, Tail.glue, List.nil_append]
    have hgoes : ∀ fr, gv = gor fr [door T.P] → fr.mode = .run ∧ t.Goes fr.todo := fun fr e => by
      have hm : fr.mode = .run := by
        obtain ⟨fh, rfl, _, e2⟩ := topG fr e
        rcases hG.top.run with x | x
        · exact e2 ▸ x
        · exact absurd ⟨fr, e, .inr (e2 ▸ x)⟩ hend
      refine ⟨hm, ?_⟩
      have hne : fr.todo ≠ [] := fun x => hend ⟨fr, e, .inl x⟩
      have hfit : t.Fits fr.todo := by
        generalize hgv : gv = gv' at hE
        cases hE with
        | top _ hf _ _ => rw [e] at hgv; injection hgv with q1; subst q1; exact hf
        | @deep fr b b' l _ _ _ _ => rw [e] at hgv; injection hgv with _ q2; have := congrArg List.length q2; simp at this
      cases t with
      | app T2 => exact hne
      | cut ops l2 T2 =>
        rcases hfit with x | ⟨l, x⟩
        · exact absurd x hne
        · cases l with
          | nil => exact absurd ⟨fr, ops, l2, T2, e, rfl, x⟩ hstut
          | cons i rest => exact ⟨i, rest, x⟩
    have hst : gr.status = .running := by cases hE <;> rfl
    have key : ∀ w1, Rely T.Cold T.Liv O w w1 → ∃ gh1 wh1 es R1 gv1 gr1 w1' es', stepG T.P true gh (wh.re w1.tape w1.drawn) = .go gh1 wh1 es ∧ stepG T.P T.main gr w1 = .go gr1 w1' es' ∧ Turn Z R R1 (wh.re w1.tape w1.drawn) w1 wh1 w1' ∧ EsR Z R1 es es' ∧ GoR T.P gl fs (door T.P) [door T.P] R1 gh1 gv1 ∧ ExtG T.P Hd z t ds K gv1 gr1 := by
      intro w1 r
      obtain ⟨gh1, wh1, es, e⟩ := h1 w1.tape w1.drawn
      have hW1 : WR Z R (wh.re w1.tape w1.drawn) w1 := hW.frame r.size fun a b x => by
        rcases hR a b x with ⟨_, hc⟩ | ho
        · exact r.cold b hc
        · exact r.own b ho
      have st := step_like (main := T.main) hg HF hgl (by simp) hG hW1
      rw [e] at st
      rcases st with ⟨R1, g1, w1', es', e', t', he, hh⟩ | hf
      · have np : gh1.frame.mode = .run ∨ gh1.frame.mode = .returning := by
          rcases hh with hh | hh
          · exact hh.top.run
          · obtain ⟨⟨v, u, k, K', hv, _, x, _⟩, _⟩ := hh
            rw [x]
            exact .inl rfl
        obtain ⟨gr1, er, hE1⟩ := step_ext hkd hG hE hgoes (fun hm => tame_of hg HF hgl hG hW1 e hm np) e'
        rcases hh with hh | hh
        · exact ⟨gh1, wh1, es, R1, g1, gr1, w1', es', e, er, t', he, hh, hE1⟩
        · exfalso
          obtain ⟨⟨v, u, k, K', hv, x1, _, _, _, x2⟩, _⟩ := hh
          injection x1 with _ x3
          subst x3
          cases hE1 with
          | top => simp [gor] at x2
          | @deep fr b b' l _ _ _ _ => simp [gor] at x2
      · exact absurd (h2 _ _ _ _ _ e) (hsink _ _ hf.sinks)
    have did : ∀ w1, Rely T.Cold T.Liv O w w1 → ∀ wh1 es R1 w1' es', Turn Z R R1 (wh.re w1.tape w1.drawn) w1 wh1 w1' → EsR Z R1 es es' → Did T.Cold O T.Say w1 w1' es' ∧ (∀ a b, R1 a b → (Z a ∧ T.Cold b) ∨ With O w1 w1' b) ∧ deafBehind d es' = d ∧ (∀ e ∈ es', e.loc ≠ .mark .disable ∧ e.loc ≠ .mark .enable) := by
      intro w1 r wh1 es R1 w1' es' t he
      have hR1 : ∀ a b, R1 a b → (Z a ∧ T.Cold b) ∨ With O w1 w1' b := fun a b x => by
        rcases t.new a b x with y | ⟨_, y⟩
        · exact (hR a b y).imp id .inl
        · exact .inr (.inr ⟨y, (t.wr.lt x).2⟩)
      refine ⟨⟨t.size', fun b hb hn => ?_, t.rest, fun e he' => (evs_own t.wr hR1 he e he').1⟩, hR1, deafBehind_still (fun e he' => (evs_own (Say := T.Say) t.wr hR1 he e he').2) d, fun e he' => (evs_own (Cold := T.Cold) (Say := T.Say) t.wr hR1 he e he').2⟩
      by_cases hx : ∃ a, R a b
      · obtain ⟨a, x⟩ := hx
        rcases hR a b x with ⟨hz, _⟩ | ho
        · exact t.still a b x hz
        · exact absurd ho hn
      · exact t.aside b hb fun a x => hx ⟨a, x⟩
    refine .step hst (fun w1 r => ?_) fun w1 g' w' es r e => ?_
    · obtain ⟨gh1, wh1, es, R1, gv1, gr1, w1', es', e, e', t, he, hh, _⟩ := key w1 r
      obtain ⟨dd, _, _, hush⟩ := did w1 r wh1 es R1 w1' es' t he
      exact ⟨gr1, w1', es', e', dd, hliv O w1 w1' es' hO dd, fun h => absurd h hcm, fun _ => hush⟩
    · obtain ⟨gh1, wh1, es1, R1, gv1, gr1, w1', es', e1, e', t, he, hh, hE1⟩ := key w1 r
      rw [e'] at e
      injection e with q1 q2 q3
      subst q1 q2 q3
      obtain ⟨dd, hR1, hdf, _⟩ := did w1 r wh1 es1 R1 w1' es' t he
      rw [hdf]
      have hO1 : ∀ b, With O w1 w1' b → ¬ Av b := fun b hb => hb.elim (hO b) fun hn hc => by
        have := hC b hc
        have := r.size
        have := hn.1
        omega
      have sn : Since T.Cold T.Liv w w1' := r.since.trans ⟨dd.size, fun b hb => dd.kept b (Nat.lt_of_lt_of_le (hC b (hAv b hb)) r.size) (fun ho => hO b ho (hAv b hb)), dd.rest.2, hliv O w1 w1' es' hO dd⟩
      refine ih _ _ _ _ _ e1 (fun x hx => t.le _ _ (hgl x hx)) hh hE1 t.wr hR1 hO1 (fun b hb => Nat.lt_of_lt_of_le (hC b hb) (Nat.le_trans r.size dd.size)) ?_
      intro R2 O2 gh2 gv2 gr2 wh2 w2 hp hG2 hE2 le hW2 hR2 hO2 hO2' sn2
      exact hk R2 O2 gh2 gv2 gr2 wh2 w2 hp hG2 hE2 (t.le.trans le) hW2 hR2 (fun b hb => hO2 b (.inl hb)) hO2' (sn.trans sn2)
end
end Ren
end Go.Proofs.YtdkpbobglogmoaaGreat
namespace Go.Proofs.YtdkpbobglogmoaaGreat
open Go Go.Conc
namespace Ren
section
variable {P : Program} {gl fs : Nat → Bool} {Z : Env} {R : Rel}
def base (f : FuncId) : Frame := { fn := f, tmps := #[], todo := [], defers := [], mode := .run, kind := .normal }
variable (P) in
def Hn (f : FuncId) (Q : Act → World → Prop) (g : Goroutine) (w : World) : Prop := ∃ a, g = gor ((base f).at a []) [door P] ∧ Q a w
theorem hn_callers {f : FuncId} {Q : Act → World → Prop} {g : Goroutine} {w : World} (h : Hn P f Q g w) : g.callers = [door P] ∧ g.frame.mode = .run := by
  obtain ⟨a, rfl, _⟩ := h
  exact ⟨rfl, rfl⟩
theorem hn_sinks {f : FuncId} {Q : Act → World → Prop} {g : Goroutine} {w : World} (h : Sinks P g) : ¬ Tree P (Hn P f Q) g w := by
  intro ht
  revert h
  induction ht with
  | @stop g w hs =>
    intro hk
    obtain ⟨c, hc⟩ := hk.mode
    rw [(hn_callers hs).2] at hc
    cases hc
  | @step g w h1 _ ih =>
    intro hk
    obtain ⟨g1, w1, es, e⟩ := h1 w.tape w.drawn
    rcases hk.step (w := w.re w.tape w.drawn) with ⟨g2, e2, h2⟩ | ⟨o, w2, es2, e2⟩
    · exact ih _ _ _ _ _ e2 h2
    · rw [e] at e2; cases e2
theorem hn_home {f : FuncId} {Q : Act → World → Prop} {v : Value} {w : World} (h : Tree P (Hn P f Q) (gor ((door P).finish v) []) w) : False := by
  cases h with
  | stop hs => have := (hn_callers hs).1; simp [gor] at this
  | step h1 h2 =>
    obtain ⟨g1, w1, es, e⟩ := h1 w.tape w.drawn
    exact absurd e (home_ends _ _ _)
theorem hn_ends {f : FuncId} {Q : Act → World → Prop} (fr : Frame) (R : Rel) (gv : Goroutine) (w : World) (hG : GoR P gl fs (door P) [door P] R (gor fr [door P]) gv) (he : fr.todo = [] ∨ fr.mode = .returning) (ht : Tree P (Hn P f Q) (gor fr [door P]) w) : Hn P f Q (gor fr [door P]) w := by
  have hf : FrR P gl fs R fr gv.frame := hG.top
  have ret : ∀ (fr : Frame) w, fr.mode = .returning → fr.defers = [] → fr.kind = .normal → (∃ fn, P.funcs[fr.fn]? = some fn) → ¬ Tree P (Hn P f Q) (gor fr [door P]) w := by
    intro fr w hr hd hk ⟨fn, hfn⟩ ht
    cases ht with
    | stop hs => have := (hn_callers hs).2; simp only [gor] at this; rw [hr] at this; cases this
    | step h1 h2 =>
      obtain ⟨g1, w1, es, e⟩ := h1 w.tape w.drawn
      have e0 := e
      unfold stepG gor at e
      simp only [hr] at e
      unfold unwind at e
      simp only [hd, hr, hfn] at e
      revert e
      rcases (results fn fr.tmps).runT P (w.re w.tape w.drawn) #[] with ⟨r, es2⟩
      cases r with
      | halt h w => intro e; cases h <;> cases e
      | ok v w2 =>
        intro e
        have dr : doReturn P true fr [door P] none v w2 = .go (gor ((door P).finish v) []) w2 := by
          unfold doReturn
          dsimp only
          rw [hk]
          rfl
        simp only [dr, GStep.after] at e
        injection e with q1 q2 q3
        subst q1 q2 q3
        exact hn_home (h2 _ _ _ _ _ e0)
  rcases hf.run with hm | hm
  · rcases he with he | he
    · cases ht with
      | stop hs => exact hs
      | step h1 h2 =>
        exfalso
        have go : stepG P true (gor fr [door P]) (w.re w.tape w.drawn) = .go (gor { fr with mode := .returning } [door P]) (w.re w.tape w.drawn) #[] := by
          rw [stepG_run hm]
          unfold stepG.exec
          simp only [he, hf.round.1]
          rfl
        exact ret { fr with mode := .returning } _ rfl hf.defers.1 hf.kind.1 hf.there (h2 _ _ _ _ _ go)
    · rw [hm] at he; cases he
  · exact absurd ht (ret _ _ hm hf.defers.1 hf.kind.1 hf.there)
theorem Sinks.no_hn {f : FuncId} {Q : Act → World → Prop} : ∀ (n : Nat) {g : Goroutine} (h : Sinks P g) {w : World} {g1 : Goroutine} {w1 : World}, iter P n g w = some (g1, w1) → ¬ Hn P f Q g1 w1 := by
  intro n
  induction n with
  | zero =>
    intro g h w g1 w1 e hs
    cases e
    obtain ⟨c, hc⟩ := h.mode
    rw [(hn_callers hs).2] at hc
    cases hc
  | succ n ih =>
    intro g h w g1 w1 e
    unfold iter at e
    rcases h.step (w := w) with ⟨g2, e2, h2⟩ | ⟨o, w2, es, e2⟩
    · rw [e2] at e
      exact ih h2 e
    · rw [e2] at e
      cases e
variable (hg : P.globals.size ≤ Z.glob) (HF : Frag P gl fs Z)
include hg HF
theorem piece_tree {f : FuncId} {Q : Act → World → Prop} (hpost : ∀ a w τ d, Q a w → Q a (w.re τ d)) {fr : Frame} {w0 : World}
    (hl : Live P gl fs Z (gor fr [door P]) w0)
    (h : ∀ τ d, ∃ a' w', Q a' w' ∧ Steps P (lone fr [door P] (w0.re τ d)) (lone ((base f).at a' []) [door P] w')) :
    Tree P (Hn P f Q) (gor fr [door P]) w0 := by
  have dead : ∀ v w, ¬ Reaches P (Hn P f Q) (gor ((door P).finish v) []) w := fun v w => reaches_not (home_ends) fun hs => by have := (hn_callers hs).1; simp [gor] at this
  refine tree_of (Live := Live P gl fs Z) ?_ ?_ ?_ ?_ hl fun τ d => ?_
  · rintro g w ⟨R, K, g', w', hK, hG, hW, hgl⟩ hs
    exact step_lcl hg HF hgl hG hW
  · rintro g w g1 w1 es ⟨R, K, g', w', hK, hG, hW, hgl⟩ hs e
    have key := step_like (main := true) hg HF hgl hK hG hW
    rw [e] at key
    rcases key with ⟨R1, g1', w1', es', e', t, he, h1 | h1⟩ | h1
    · exact .inl ⟨R1, K, g1', w1', hK, h1, t.wr, fun x hx => t.le _ _ (hgl x hx)⟩
    · obtain ⟨⟨v, u, k, K', hv, e1, e2, e3, e4, e5⟩, ⟨e6, _⟩, ⟨e7, _⟩, ⟨e8, _⟩⟩ := h1
      obtain ⟨f0, c0, s0, d0, o0⟩ := g1
      simp only at e2 e3 e6 e7 e8
      subst e2 e3 e6 e7 e8
      exact .inr (.inr fun τ d => dead v _)
    · exact .inr (.inr fun τ d ⟨n, g2, w2, e2, s⟩ => h1.sinks.no_hn n e2 s)
  · rintro g w τ d ⟨R, K, g', w', hK, hG, hW, hgl⟩
    exact ⟨R, K, g', w'.re τ d, hK, hG, hW.re τ d, hgl⟩
  · rintro g w τ d ⟨a, e, hp⟩
    exact ⟨a, e, hpost _ _ _ _ hp⟩
  · obtain ⟨a', w', hp, n, hn⟩ := h τ d
    refine ⟨n, gor ((base f).at a' []) [door P], w', runN_iter (Cls := fun g w => Live P gl fs Z g w ∨ (∃ v, g = gor ((door P).finish v) []) ∨ Sinks P g) ?_ ?_ ?_ n (gor fr [door P]) _ _ _ _ ?_ hn, a', rfl, hp⟩
    · rintro g w (⟨R, K, g', w', hK, hG, hW, hgl⟩ | ⟨v, rfl⟩ | hk)
      · exact ⟨hG.st.1, hG.dy.1, hG.of.1⟩
      · exact ⟨rfl, rfl, rfl⟩
      · exact ⟨hk.st, hk.dy, hk.of⟩
    · rintro g w g1 w1 es (⟨R, K, g', w', hK, hG, hW, hgl⟩ | ⟨v, rfl⟩ | hk) e
      · have key := step_like (main := true) hg HF hgl hK hG hW
        rw [e] at key
        rcases key with ⟨R1, g1', w1', es', e', t, he, h1 | h1⟩ | h1
        · exact .inl ⟨R1, K, g1', w1', hK, h1, t.wr, fun x hx => t.le _ _ (hgl x hx)⟩
        · obtain ⟨⟨v, u, k, K', hv, e1, e2, e3, e4, e5⟩, ⟨e6, _⟩, ⟨e7, _⟩, ⟨e8, _⟩⟩ := h1
          obtain ⟨f0, c0, s0, d0, o0⟩ := g1
          simp only at e2 e3 e6 e7 e8
          subst e2 e3 e6 e7 e8
          exact .inr (.inl ⟨v, rfl⟩)
        · exact .inr (.inr h1.sinks)
      · exact absurd e (home_ends _ _ _)
      · rcases hk.step (w := w) with ⟨g2, e2, h2⟩ | ⟨o, w2, es2, e2⟩
        · rw [e] at e2
          cases e2
          exact .inr (.inr h2)
        · rw [e] at e2
          cases e2
    · rintro g w (⟨R, K, g', w', hK, hG, hW, hgl⟩ | ⟨v, rfl⟩ | hk)
      · have key := step_like (main := true) hg HF hgl hK hG hW
        revert key
        cases e : stepG P true g w with
        | go g1 w1 es => intro _; exact .inl ⟨_, _, _, rfl⟩
        | ended o w1 es => intro _; exact .inr ⟨_, _, _, rfl⟩
        | _ => intro key; exact key.elim
      · refine .inr ?_
        unfold stepG gor door Frame.finish
        simp only
        unfold stepG.exec
        simp only [no_row, Option.elim]
        exact ⟨_, _, _, rfl⟩
      · rcases hk.step (w := w) with ⟨g2, e2, h2⟩ | ⟨o, w2, es2, e2⟩
        · exact .inl ⟨_, _, _, e2⟩
        · exact .inr ⟨_, _, _, e2⟩
    · obtain ⟨R, K, g', w', hK, hG, hW, hgl⟩ := hl
      exact .inl ⟨R, K, g', w'.re τ d, hK, hG, hW.re τ d, hgl⟩
abbrev fram (f : FuncId) (tm : Array Value) (todo : List Item) (ds : Over) : Frame := ⟨f, tm, todo, ds.1, .run, ds.2, none⟩
theorem gt_any {T : Terms} {Stop : Nat → (Nat → Prop) → Goroutine → World → Prop} {K : List Frame} {H : Nat → Bool} {t : Tail} {ds : Over} {d : Nat} {f : FuncId} {Q : Act → World → Prop} {X : List Item} {a : Act}
    (hkd : (ds.2 == CallKind.early) = false) {Av : Nat → Prop} (hAv : ∀ b, T.Cold b → Av b) (hT : T.P = P) (hcm : ¬ T.Calm)
    (hliv : ∀ (O : Nat → Prop) w w' es, (∀ b, O b → ¬ Av b) → Did T.Cold O T.Say w w' es → T.Liv w → T.Liv w')
    (hpost : ∀ a w τ d, Q a w → Q a (w.re τ d)) (hfn : ∃ fn, P.funcs[f]? = some fn) (hX : ∀ x ∈ X, okItem P gl fs x = true) (hsee : ∀ x ∈ X, seesI H x = true) (hfit : t.Fits X) (ha : a.defers = [])
    {wh : World} (h : ∀ τ d, ∃ a' w', Q a' w' ∧ Steps P (lone ((base f).at a X) [door P] (wh.re τ d)) (lone ((base f).at a' []) [door P] w'))
    {R : Rel} {O : Nat → Prop} {tmv tm : Array Value} {w : World} (hgl : ∀ x, gl x = true → R x x) (htm : VsR R a.tmps tmv) (hsm : SameT H tm tmv tm) (hW : WR Z R wh w)
    (hR : ∀ a b, R a b → (Z a ∧ T.Cold b) ∨ O b) (hO : ∀ b, O b → ¬ Av b) (hC : ∀ b, Av b → b < w.heap.size)
    (hk : ∀ R1 O1 a1 tmv1 tm1 wh1 w1, Q a1 wh1 → a1.defers = [] → VsR R1 a1.tmps tmv1 → SameT H tm tmv1 tm1 → R.Le R1 → WR Z R1 wh1 w1 → (∀ a b, R1 a b → (Z a ∧ T.Cold b) ∨ O1 b) → (∀ b, O b → O1 b) → (∀ b, O1 b → ¬ Av b) → Since T.Cold T.Liv w w1 →
        Gt T Stop d O1 (gor (fram f tm1 (t.glue []) ds) K) w1) :
    Gt T Stop d O (gor (fram f tm (t.glue X) ds) K) w := by
  have hG : GoR P gl fs (door P) [door P] R (gor ((base f).at a X) [door P]) (gor (fram f tmv X ([], .normal)) [door P]) :=
    ⟨⟨[], [], rfl, rfl, .nil⟩, ⟨rfl, htm, rfl, hX, ⟨ha, rfl⟩, rfl, .inl rfl, ⟨rfl, rfl⟩, ⟨rfl, rfl⟩, hfn⟩, ⟨rfl, rfl⟩, ⟨rfl, rfl⟩, ⟨rfl, rfl⟩⟩
  have tr := piece_tree hg HF (f := f) hpost (fr := (base f).at a X) ⟨R, [door P], _, w, by simp, hG, hW, hgl⟩ h
  refine gt_of_piece (Hd := H) (z := tm) (t := t) (ds := ds) (K := K) hkd hAv hT hcm hg HF hliv (fun g w => hn_sinks) (fun fr R gv w => hn_ends fr R gv w) tr hgl hG (.top (.inl rfl) hfit hsee ⟨tm, rfl, hsm⟩) hW hR hO hC ?_
  rintro R1 O1 gh1 gv1 gr1 wh1 w1 ⟨a1, rfl, hq⟩ hG1 hE1 le hW1 hR1 hOO hO1 sn
  have hf : FrR P gl fs R1 ((base f).at a1 []) gv1.frame := hG1.top
  have e : ∃ tm1, gv1 = gor (fram f tm1 [] ([], .normal)) [door P] ∧ VsR R1 a1.tmps tm1 := by
    obtain ⟨⟨l, m, q1, q2, q3⟩, _, ⟨_, q5⟩, ⟨_, q6⟩, _, q7⟩ := hG1
    have hl : l = [] := by
      cases l with
      | nil => rfl
      | cons x l => simp [gor] at q1
    subst hl
    cases q3 with
    | nil =>
      obtain ⟨fr, cs, st, dy, off⟩ := gv1
      obtain ⟨f0, t0, td, d0, m0, k0, r0⟩ := fr
      obtain ⟨p1, p2, p3, p4, ⟨p5, p6⟩, p7, p8, ⟨p9, p10⟩, ⟨p11, p12⟩, p13⟩ := hf
      simp only at q2 q5 q6 q7 p1 p2 p3 p6 p7 p10 p12
      subst q2 q5 q6 q7 p6 p10 p12
      have p1 : f = f0 := p1
      have p3 : ([] : List Item) = td := p3
      have p7 : FrameMode.run = m0 := p7
      subst p1 p3 p7
      exact ⟨t0, rfl, p2⟩
  obtain ⟨tm1, rfl, hv⟩ := e
  have er : ∃ tm2, gr1 = gor (fram f tm2 (t.glue []) ds) K ∧ SameT H tm tm1 tm2 := by
    generalize hgv : gor (fram f tm1 [] ([], .normal)) [door P] = gv at hE1
    cases hE1 with
    | top _ _ _ ho =>
      injection hgv with q1
      subst q1
      obtain ⟨tm2, rfl, hs2⟩ := ho
      exact ⟨tm2, rfl, hs2⟩
    | @deep fr b b' l _ _ _ _ => injection hgv with _ q2; have := congrArg List.length q2; simp at this
  obtain ⟨tm2, rfl, hs2⟩ := er
  exact hk R1 O1 a1 tm1 tm2 wh1 w1 hq hf.defers.1 hv hs2 le hW1 hR1 hOO hO1 sn
omit hg HF in
theorem steps_code {c : Code} {f : FuncId} {Q : Act → World → Prop} {a : Act} {w : World} (h : c.wp P (fun e a w => e = .normal ∧ Q a w) a w) : ∃ a' w', Q a' w' ∧ Steps P (lone ((base f).at a [.code c]) [door P] w) (lone ((base f).at a' []) [door P] w') := by
  obtain ⟨e, a', w', ⟨rfl, hq⟩, hs⟩ := h (base f) [] [door P]
  exact ⟨a', w', hq, hs⟩
omit hg HF in
end
end Ren
end Go.Proofs.YtdkpbobglogmoaaGreat
namespace Go.Proofs.YtdkpbobglogmoaaGreat
open Go Go.Conc
namespace Ren
def Slf (S : Nat → Prop) : Rel := fun a b => a = b ∧ S a
structure SelfO (S I : Nat → Prop) (w : World) (b : Nat) : Prop where
  obj : ∃ o, w.heap[b]? = some o ∧ OR (Slf S) o o
  ice : I b → ∃ c e f, w.heap[b]? = some (.cells c e f)
open Classical in
noncomputable def ghostW (I : Nat → Prop) (w : World) : World :=
  { w with heap := w.heap.mapIdx fun i o => if I i then (match o with | .cells c e f => .cells c e (0, max c.size f.2) | o => o) else o }
section
variable {S I : Nat → Prop} {w : World}
theorem ghostW_size : (ghostW I w).heap.size = w.heap.size := by simp [ghostW]
theorem ghostW_other {b : Nat} (h : ¬ I b) : (ghostW I w).heap[b]? = w.heap[b]? := by
  simp only [ghostW, Array.getElem?_mapIdx, h, if_false]
  cases w.heap[b]? <;> rfl
theorem ghostW_ice {b : Nat} (h : I b) {c : Array Value} {e : TypeId} {f : Nat × Nat} (hb : w.heap[b]? = some (.cells c e f)) : (ghostW I w).heap[b]? = some (.cells c e (0, max c.size f.2)) := by
  simp only [ghostW, Array.getElem?_mapIdx, hb, h, if_true, Option.map_some]
theorem mirror (hS : ∀ b, S b → SelfO S I w b) (hI : ∀ b, I b → S b) {g : Nat} (hg : g ≤ w.heap.size) : WR ⟨I, g⟩ (Slf S) (ghostW I w) w := by
  refine ⟨fun a b c h k => h.1.symm.trans k.1, fun a b c h k => h.1.trans k.1.symm, ?_, fun a ha => ?_, rfl, rfl, fun a b h _ => h.1, ?_, hg⟩
  · rintro a _ ⟨rfl, ha⟩
    obtain ⟨⟨o, ho, hr⟩, hi⟩ := hS a ha
    by_cases h : I a
    · obtain ⟨c, e, f, hc⟩ := hi h
      rw [hc] at ho
      cases ho
      refine ⟨_, _, ghostW_ice h hc, hc, ?_⟩
      cases hr with
      | cells _ hv _ => exact .cells e hv fun o ho => ⟨Nat.zero_le _, Nat.lt_of_lt_of_le ho.2 (Nat.le_max_right _ _)⟩
    · exact ⟨o, o, (ghostW_other h).trans ho, ho, hr⟩
  · obtain ⟨c, e, f, hc⟩ := (hS a (hI a ha)).ice ha
    exact ⟨c, e, _, ghostW_ice ha hc, Nat.le_max_left _ _⟩
  · show g ≤ (ghostW I w).heap.size
    rw [ghostW_size]; exact hg
theorem self_ints {k : IntKind} {l : List Int} {R : Rel} : VsR R (l.map (Value.int k)).toArray (l.map (Value.int k)).toArray := by
  refine ⟨rfl, fun i v u h1 h2 => ?_⟩
  rw [h1] at h2
  cases h2
  simp only [List.getElem?_toArray, List.getElem?_map, Option.map_eq_some_iff] at h1
  obtain ⟨n, _, rfl⟩ := h1
  exact .int k n
theorem VsR.self_list {R : Rel} : ∀ {l : List Value}, (∀ v ∈ l, VR R v v) → VsR R l.toArray l.toArray := fun {l} h => by
  refine ⟨rfl, fun i v u h1 h2 => ?_⟩
  rw [h1] at h2
  cases h2
  exact h v (by have := Array.mem_of_getElem? h1; simpa using this)
end
end Ren
end Go.Proofs.YtdkpbobglogmoaaGreat
namespace Go.Proofs.YtdkpbobglogmoaaGreat
open Go Go.Conc
namespace Ren
section
variable {P : Program} {gl fs : Nat → Bool} {Z : Env} {R : Rel}
theorem gt_of_segA {T : Terms} {Stop : Nat → (Nat → Prop) → Goroutine → World → Prop} {H : Goroutine → World → Prop} {K : List Frame} {d : Nat}
    {Av : Nat → Prop} (hAv : ∀ b, T.Cold b → Av b) (hT : T.P = P) (hcm : ¬ T.Calm) (hg : P.globals.size ≤ Z.glob) (HF : Frag P gl fs Z) (hK : K ≠ [])
    (hliv : ∀ (O : Nat → Prop) w w' es, (∀ b, O b → ¬ Av b) → Did T.Cold O T.Say w w' es → T.Liv w → T.Liv w') (hsink : ∀ g w, Sinks P g → ¬ Tree P H g w) :
    ∀ {gh : Goroutine} {wh : World}, Tree P H gh wh → ∀ {R : Rel} {O : Nat → Prop} {g : Goroutine} {w : World}, (∀ x, gl x = true → R x x) → GoR P gl fs (door P) K R gh g → WR Z R wh w →
      (∀ a b, R a b → (Z a ∧ T.Cold b) ∨ O b) → (∀ b, O b → ¬ Av b ∧ b < w.heap.size) → (∀ b, Av b → b < w.heap.size) →
      (∀ R1 O1 gh1 g1 wh1 w1, H gh1 wh1 → GoR P gl fs (door P) K R1 gh1 g1 → R.Le R1 → WR Z R1 wh1 w1 → (∀ a b, R1 a b → (Z a ∧ T.Cold b) ∨ O1 b) → (∀ b, O b → O1 b) → (∀ b, O1 b → ¬ Av b ∧ b < w1.heap.size) → Since T.Cold T.Liv w w1 →
        Gt T Stop d O1 g1 w1) →
      (∀ R1 O1 v u wh1 w1 k K', K = k :: K' → R.Le R1 → Tree P H (gor ((door P).finish v) []) wh1 → VR R1 v u → WR Z R1 wh1 w1 → (∀ a b, R1 a b → (Z a ∧ T.Cold b) ∨ O1 b) → (∀ b, O b → O1 b) → (∀ b, O1 b → ¬ Av b ∧ b < w1.heap.size) → Since T.Cold T.Liv w w1 →
        Gt T Stop d O1 (gor (k.finish u) K') w1) →
      Gt T Stop d O g w := by
  subst hT
  intro gh wh ht
  induction ht with
  | @stop gh wh hs =>
    intro R O g w hgl hG hW hR hO hC hk _
    exact hk R O gh g wh w hs hG (.refl R) hW hR (fun b hb => hb) hO (.refl w)
  | @step gh wh h1 h2 ih =>
    intro R O g w hgl hG hW hR hO hC hk hb
    have key : ∀ w1, Rely T.Cold T.Liv O w w1 → ∃ gh1 wh1 es R1 g1 w1' es', stepG T.P true gh (wh.re w1.tape w1.drawn) = .go gh1 wh1 es ∧ stepG T.P T.main g w1 = .go g1 w1' es' ∧ Turn Z R R1 (wh.re w1.tape w1.drawn) w1 wh1 w1' ∧ EsR Z R1 es es' ∧ (GoR T.P gl fs (door T.P) K R1 gh1 g1 ∨ BackR (door T.P) K R1 gh1 g1) := by
      intro w1 r
      obtain ⟨gh1, wh1, es, e⟩ := h1 w1.tape w1.drawn
      have hW1 : WR Z R (wh.re w1.tape w1.drawn) w1 := hW.frame r.size fun a b x => by
        rcases hR a b x with ⟨_, hc⟩ | ho
        · exact r.cold b hc
        · exact r.own b ho
      have st := step_like (main := T.main) hg HF hgl hK hG hW1
      rw [e] at st
      rcases st with ⟨R1, g1, w1', es', e', t, he, hh⟩ | hf
      · exact ⟨gh1, wh1, es, R1, g1, w1', es', e, e', t, he, hh⟩
      · exact absurd (h2 _ _ _ _ _ e) (hsink _ _ hf.sinks)
    have did : ∀ w1, Rely T.Cold T.Liv O w w1 → ∀ wh1 es R1 w1' es', Turn Z R R1 (wh.re w1.tape w1.drawn) w1 wh1 w1' → EsR Z R1 es es' → Did T.Cold O T.Say w1 w1' es' ∧ (∀ a b, R1 a b → (Z a ∧ T.Cold b) ∨ With O w1 w1' b) ∧ deafBehind d es' = d ∧ (∀ e ∈ es', e.loc ≠ .mark .disable ∧ e.loc ≠ .mark .enable) := by
      intro w1 r wh1 es R1 w1' es' t he
      have hR1 : ∀ a b, R1 a b → (Z a ∧ T.Cold b) ∨ With O w1 w1' b := fun a b x => by
        rcases t.new a b x with y | ⟨_, y⟩
        · exact (hR a b y).imp id .inl
        · exact .inr (.inr ⟨y, (t.wr.lt x).2⟩)
      refine ⟨⟨t.size', fun b hb hn => ?_, t.rest, fun e he' => (evs_own t.wr hR1 he e he').1⟩, hR1, deafBehind_still (fun e he' => (evs_own (Say := T.Say) t.wr hR1 he e he').2) d, fun e he' => (evs_own (Cold := T.Cold) (Say := T.Say) t.wr hR1 he e he').2⟩
      by_cases hx : ∃ a, R a b
      · obtain ⟨a, x⟩ := hx
        rcases hR a b x with ⟨hz, _⟩ | ho
        · exact t.still a b x hz
        · exact absurd ho hn
      · exact t.aside b hb fun a x => hx ⟨a, x⟩
    refine .step hG.st.2 (fun w1 r => ?_) fun w1 g' w' es r e => ?_
    · obtain ⟨gh1, wh1, es, R1, g1, w1', es', e, e', t, he, hh⟩ := key w1 r
      obtain ⟨dd, _, _, hush⟩ := did w1 r wh1 es R1 w1' es' t he
      exact ⟨g1, w1', es', e', dd, hliv O w1 w1' es' (fun b hb => (hO b hb).1) dd, fun h => absurd h hcm, fun _ => hush⟩
    · obtain ⟨gh1, wh1, es1, R1, g1, w1', es', e1, e', t, he, hh⟩ := key w1 r
      rw [e'] at e
      injection e with q1 q2 q3
      subst q1 q2 q3
      obtain ⟨dd, hR1, hdf, _⟩ := did w1 r wh1 es1 R1 w1' es' t he
      rw [hdf]
      have hO1 : ∀ b, With O w1 w1' b → ¬ Av b ∧ b < w1'.heap.size := fun b hb => hb.elim (fun h => ⟨(hO b h).1, Nat.lt_of_lt_of_le (hO b h).2 (Nat.le_trans r.size dd.size)⟩) fun hn => ⟨fun hc => by
        have := hC b hc
        have := r.size
        have := hn.1
        omega, hn.2⟩
      have sn : Since T.Cold T.Liv w w1' := r.since.trans ⟨dd.size, fun b hb => dd.kept b (Nat.lt_of_lt_of_le (hC b (hAv b hb)) r.size) (fun ho => (hO b ho).1 (hAv b hb)), dd.rest.2, hliv O w1 w1' es' (fun b hb => (hO b hb).1) dd⟩
      rcases hh with hh | hh
      · refine ih _ _ _ _ _ e1 (fun x hx => t.le _ _ (hgl x hx)) hh t.wr hR1 hO1 (fun b hb => Nat.lt_of_lt_of_le (hC b hb) (Nat.le_trans r.size dd.size)) ?_ ?_
        · intro R2 O2 gh2 g2 wh2 w2 hp hG2 le hW2 hR2 hO2 hO2' sn2
          exact hk R2 O2 gh2 g2 wh2 w2 hp hG2 (t.le.trans le) hW2 hR2 (fun b hb => hO2 b (.inl hb)) hO2' (sn.trans sn2)
        · intro R2 O2 v u wh2 w2 k K' ek le hp hv hW2 hR2 hO2 hO2' sn2
          exact hb R2 O2 v u wh2 w2 k K' ek (t.le.trans le) hp hv hW2 hR2 (fun b hb => hO2 b (.inl hb)) hO2' (sn.trans sn2)
      · obtain ⟨⟨v, u, k, K', hv, e2, e3, e4, e5, e6⟩, ⟨e7, e8⟩, ⟨e9, e10⟩, ⟨e11, e12⟩⟩ := hh
        have tr := h2 _ _ _ _ _ e1
        obtain ⟨f0, c0, s0, d0, o0⟩ := gh1
        obtain ⟨f1, c1, s1, d1, o1⟩ := g1
        simp only at e3 e4 e5 e6 e7 e8 e9 e10 e11 e12
        subst e3 e4 e5 e6 e7 e8 e9 e10 e11 e12
        exact hb R1 (With O w1 w1') v u wh1 w1' k _ e2 t.le tr hv t.wr hR1 (fun b hb => .inl hb) hO1 sn
theorem gt_of_treeA {T : Terms} {Stop : Nat → (Nat → Prop) → Goroutine → World → Prop} {Post : Value → World → Prop} {K : List Frame} {d : Nat}
    {Av : Nat → Prop} (hAv : ∀ b, T.Cold b → Av b) (hT : T.P = P) (hcm : ¬ T.Calm) (hg : P.globals.size ≤ Z.glob) (HF : Frag P gl fs Z) (hK : K ≠ [])
    (hliv : ∀ (O : Nat → Prop) w w' es, (∀ b, O b → ¬ Av b) → Did T.Cold O T.Say w w' es → T.Liv w → T.Liv w')
    {gh : Goroutine} {wh : World} (ht : Tree P (Home P Post) gh wh) {R : Rel} {O : Nat → Prop} {g : Goroutine} {w : World} (hgl : ∀ x, gl x = true → R x x) (hG : GoR P gl fs (door P) K R gh g) (hW : WR Z R wh w)
    (hR : ∀ a b, R a b → (Z a ∧ T.Cold b) ∨ O b) (hO : ∀ b, O b → ¬ Av b ∧ b < w.heap.size) (hC : ∀ b, Av b → b < w.heap.size)
    (hk : ∀ R1 O1 v u wh1 w1 k K', K = k :: K' → R.Le R1 → Post v wh1 → VR R1 v u → WR Z R1 wh1 w1 → (∀ a b, R1 a b → (Z a ∧ T.Cold b) ∨ O1 b) → (∀ b, O b → O1 b) → (∀ b, O1 b → ¬ Av b ∧ b < w1.heap.size) → Since T.Cold T.Liv w w1 →
        Gt T Stop d O1 (gor (k.finish u) K') w1) :
    Gt T Stop d O g w := by
  refine gt_of_segA hAv hT hcm hg HF hK hliv (fun g w hs ht => sinks_no_tree ht hs) ht hgl hG hW hR hO hC (fun R1 O1 gh1 g1 wh1 w1 hs hG1 => ?_) fun R1 O1 v u wh1 w1 k K' ek le hp => hk R1 O1 v u wh1 w1 k K' ek le (home_post hp)
  obtain ⟨v, e, _⟩ := hs
  obtain ⟨l, m, e1, _⟩ := hG1.ls
  rw [e] at e1
  exact absurd e1 (by simp [gor])
theorem enter_like {f : FuncId} {fn : Func} (hfn : P.funcs[f]? = some fn) (hok : okFn P gl fs fn = true) {a b : Array Value} (h : VsR R a b) (K : List Frame) :
    GoR P gl fs (door P) K R (gor (Frame.enter P f a .normal) [door P]) (gor (Frame.enter P f b .normal) K) := by
  refine ⟨⟨[], [], rfl, rfl, .nil⟩, ?_, ⟨rfl, rfl⟩, ⟨rfl, rfl⟩, ⟨rfl, rfl⟩⟩
  unfold Frame.enter
  rw [hfn]
  refine ⟨rfl, ?_, rfl, ?_, ⟨rfl, rfl⟩, rfl, .inl rfl, ⟨rfl, rfl⟩, ⟨rfl, rfl⟩, ⟨fn, hfn⟩⟩
  · dsimp only
    rw [h.1]
    refine h.append ⟨rfl, fun i v w e f => ?_⟩
    rw [e] at f
    cases f
    obtain rfl : v = undef := by
      simp only [Array.getElem?_replicate] at e
      split at e
      · cases e; rfl
      · cases e
    exact .undef
  · intro x hx
    unfold okFn at hok
    split at hok
    · rename_i c hc
      simp only [Option.bind_some, hc, Option.getD_some] at hx
      obtain rfl := List.mem_singleton.1 hx
      exact hok
    · rename_i hc
      simp only [Option.bind_some, hc, Option.getD_none] at hx
      obtain rfl := List.mem_singleton.1 hx
      rfl
theorem gt_of_calls {T : Terms} {Stop : Nat → (Nat → Prop) → Goroutine → World → Prop} {Post : Value → World → Prop} {K : List Frame} {d : Nat} {f : FuncId} {fn : Func} {args : Array Value} {I : Nat → Prop} {w : World} {O : Nat → Prop}
    {Av : Nat → Prop} (hAv : ∀ b, T.Cold b → Av b) (hT : T.P = P) (hcm : ¬ T.Calm) (HF : ∀ Z, Frag P gl fs Z) (hK : K ≠ []) (hfs : fs f = true) (hfn : P.funcs[f]? = some fn)
    (hliv : ∀ (O : Nat → Prop) w w' es, (∀ b, O b → ¬ Av b) → Did T.Cold O T.Say w w' es → T.Liv w → T.Liv w') (hpost : ∀ v w τ d, Post v w → Post v (w.re τ d))
    (hS : ∀ b, I b → SelfO I I w b) (hIC : ∀ b, I b → T.Cold b) (hgl : ∀ x, gl x = true → I x) (hgw : P.globals.size ≤ w.heap.size) (ha : VsR (Slf I) args args)
    (h : ∀ τ d, Calls P f args ((ghostW I w).re τ d) fun e w' => ∃ v, e = .returned v ∧ Post v w')
    (hO : ∀ b, O b → ¬ Av b ∧ b < w.heap.size) (hC : ∀ b, Av b → b < w.heap.size)
    (hk : ∀ R1 O1 v u wh1 w1 k K', K = k :: K' → Post v wh1 → VR R1 v u → WR ⟨I, P.globals.size⟩ R1 wh1 w1 → (∀ a b, R1 a b → (I a ∧ T.Cold b) ∨ O1 b) → (∀ b, O b → O1 b) → (∀ b, O1 b → ¬ Av b ∧ b < w1.heap.size) → Since T.Cold T.Liv w w1 →
        Gt T Stop d O1 (gor (k.finish u) K') w1) :
    Gt T Stop d O (gor (Frame.enter P f args .normal) K) w := by
  have hW : WR ⟨I, P.globals.size⟩ (Slf I) (ghostW I w) w := mirror hS (fun _ h => h) hgw
  obtain ⟨fn', hfn', hok⟩ := (HF ⟨I, P.globals.size⟩).fn f hfs
  rw [hfn] at hfn'
  cases hfn'
  have hgl' : ∀ x, gl x = true → Slf I x x := fun x hx => ⟨rfl, hgl x hx⟩
  have tr := call_tree (gl := gl) (fs := fs) (Z := ⟨I, P.globals.size⟩) (Nat.le_refl _) (HF _) hpost ⟨Slf I, [door P], _, w, by simp, enter_like hfn hok ha [door P], hW, hgl'⟩ h
  refine gt_of_treeA hAv hT hcm (Nat.le_refl _) (HF _) hK hliv tr hgl' (enter_like hfn hok ha K) hW (fun a b hab => .inl ⟨hab.2, by rw [← hab.1]; exact hIC a hab.2⟩) hO hC ?_
  intro R1 O1 v u wh1 w1 k K' ek _ hp hv hw hr hoo ho sn
  exact hk R1 O1 v u wh1 w1 k K' ek hp hv hw hr hoo ho sn
end
end Ren
end Go.Proofs.YtdkpbobglogmoaaGreat
namespace Go.Proofs.YtdkpbobglogmoaaGreat
open Go Go.Conc
namespace Ren
section
variable {S : Nat → Prop}
theorem ex_row {R : Rel} (c : Array Value) (h : ∀ v ∈ c, ∃ g, VR R g v ∧ (VR R v v → g = v)) : ∃ d, VsR R d c ∧ ∀ (i : Nat) v, c[i]? = some v → VR R v v → d[i]? = some v := by
  have h' : ∀ i : Fin c.size, ∃ g, VR R g c[i] ∧ (VR R c[i] c[i] → g = c[i]) := fun i => h _ (Array.getElem_mem i.2)
  refine ⟨Array.ofFn fun i => (h' i).choose, ⟨by simp, fun i v w e f => ?_⟩, fun i v e hv => ?_⟩
  · have hi : i < c.size := (Array.getElem?_eq_some_iff.1 f).1
    rw [Array.getElem?_eq_getElem hi] at f
    cases f
    rw [Array.getElem?_eq_getElem (by simpa using hi)] at e
    cases e
    simp only [Array.getElem_ofFn]
    exact (h' ⟨i, hi⟩).choose_spec.1
  · have hi : i < c.size := (Array.getElem?_eq_some_iff.1 e).1
    rw [Array.getElem?_eq_getElem hi] at e
    cases e
    rw [Array.getElem?_eq_getElem (by simpa using hi)]
    simp only [Array.getElem_ofFn]
    exact congrArg some ((h' ⟨i, hi⟩).choose_spec.2 hv)
theorem ex_ghost_below {R : Rel} : ∀ (n : Nat) (v : Value), SizeOf.sizeOf v < n → ∃ g, VR R g v := by
  intro n
  induction n with
  | zero => intro v h; exact absurd h (Nat.not_lt_zero _)
  | succ n ih =>
    intro v h
    have row : ∀ c : Array Value, SizeOf.sizeOf c < n → ∃ d : Array Value, d.size = c.size ∧ ∀ (i : Nat) g v, d[i]? = some g → c[i]? = some v → VR R g v := fun c hc => by
      have h' : ∀ i : Fin c.size, ∃ g, VR R g c[i] := fun i => ih _ (Nat.lt_trans (Array.sizeOf_lt_of_mem (Array.getElem_mem i.2)) hc)
      refine ⟨Array.ofFn fun i => (h' i).choose, by simp, fun i g v e f => ?_⟩
      have hi : i < c.size := (Array.getElem?_eq_some_iff.1 f).1
      rw [Array.getElem?_eq_getElem hi] at f
      cases f
      rw [Array.getElem?_eq_getElem (by simpa using hi)] at e
      cases e
      simp only [Array.getElem_ofFn]
      exact (h' ⟨i, hi⟩).choose_spec
    cases v with
    | bool b => exact ⟨_, .bool b⟩
    | int k n => exact ⟨_, .int k n⟩
    | float k n => exact ⟨_, .float k n⟩
    | complex k a b => exact ⟨_, .junk trivial⟩
    | string s => exact ⟨_, .string s⟩
    | pointer a => cases a with
      | none => exact ⟨_, .ptr0⟩
      | some a => exact ⟨_, .junk trivial⟩
    | slice a l c => cases a with
      | none => exact ⟨_, .slice0 l c⟩
      | some a => exact ⟨_, .junk trivial⟩
    | map a => cases a with
      | none => exact ⟨_, .map0⟩
      | some a => exact ⟨_, .junk trivial⟩
    | chan a => cases a with
      | none => exact ⟨_, .chan0⟩
      | some a => exact ⟨_, .junk trivial⟩
    | func a b c => cases a with
      | method n => exact ⟨_, .meth n b c⟩
      | _ => exact ⟨_, .junk trivial⟩
    | nilFunc => exact ⟨_, .nilFunc⟩
    | nilIface => exact ⟨_, .nilIface⟩
    | iface t v =>
      obtain ⟨g, hg⟩ := ih v (by simp at h; omega)
      exact ⟨_, .iface t hg⟩
    | agg c =>
      obtain ⟨d, h1, h2⟩ := row c (by simp at h; omega)
      exact ⟨_, .agg h1 h2⟩
    | tuple c =>
      obtain ⟨d, h1, h2⟩ := row c (by simp at h; omega)
      exact ⟨_, .tuple h1 h2⟩
theorem ex_ghost {R : Rel} (v : Value) : ∃ g, VR R g v := ex_ghost_below _ v (Nat.lt_succ_self _)
theorem ex_any {R : Rel} (v : Value) : ∃ g, VR R g v ∧ (VR R v v → g = v) := by
  by_cases hv : VR R v v
  · exact ⟨v, hv, fun _ => rfl⟩
  · obtain ⟨g, hg⟩ := ex_ghost v
    exact ⟨g, hg, fun x => absurd x hv⟩
theorem ex_cells (R : Rel) (c : Array Value) : ∃ d, VsR R d c ∧ ∀ (i : Nat) v, c[i]? = some v → VR R v v → d[i]? = some v :=
  ex_row c fun v hv => ex_any v
inductive GhostO (R : Rel) (ice : Prop) : Obj → Obj → Prop
  | cells {c d : Array Value} (e : TypeId) (f : Nat × Nat) : VsR R d c → (∀ (i : Nat) v, c[i]? = some v → VR R v v → d[i]? = some v) → ¬ ice → GhostO R ice (.cells d e f) (.cells c e f)
  | ice {c d : Array Value} (e : TypeId) (f : Nat × Nat) : VsR R d c → (∀ (i : Nat) v, c[i]? = some v → VR R v v → d[i]? = some v) → ice → GhostO R ice (.cells d e (0, max d.size f.2)) (.cells c e f)
def MayO (o : Obj) : Prop := ∃ c e f, o = .cells c e f
theorem ex_obj (R : Rel) (ice : Prop) {o : Obj} (h : MayO o) : ∃ g, GhostO R ice g o := by
  obtain ⟨c, e, f, rfl⟩ := h
  obtain ⟨d, h1, h2⟩ := ex_cells R c
  by_cases hi : ice
  · exact ⟨_, .ice e f h1 h2 hi⟩
  · exact ⟨_, .cells e f h1 h2 hi⟩
theorem GhostO.or {R : Rel} {ice : Prop} {g o : Obj} (h : GhostO R ice g o) : OR R g o := by
  cases h with
  | cells e f h1 _ _ => exact .cells e h1 fun o ho => ho
  | ice e f h1 _ _ => exact .cells e h1 fun o ho => ⟨Nat.zero_le _, Nat.lt_of_lt_of_le ho.2 (Nat.le_max_right _ _)⟩
open Classical in
theorem ex_world (S I : Nat → Prop) (w : World) (hS : ∀ b, S b → ∃ o, w.heap[b]? = some o ∧ MayO o) (hI : ∀ b, I b → S b) {g : Nat} (hg : g ≤ w.heap.size) :
    ∃ wh, WR ⟨I, g⟩ (Slf S) wh w ∧ wh.heap.size = w.heap.size ∧ wh.os = w.os ∧ wh.output = w.output ∧ wh.tape = w.tape ∧ wh.drawn = w.drawn ∧ ∀ b, S b → ∃ x o, wh.heap[b]? = some x ∧ w.heap[b]? = some o ∧ GhostO (Slf S) (I b) x o := by
  have h' : ∀ (b : Nat) (o : Obj), ∃ x, (S b → w.heap[b]? = some o → GhostO (Slf S) (I b) x o) := fun b o => by
    by_cases hb : S b ∧ w.heap[b]? = some o
    · obtain ⟨o', ho', hm⟩ := hS b hb.1
      rw [hb.2] at ho'
      cases ho'
      obtain ⟨x, hx⟩ := ex_obj (Slf S) (I b) hm
      exact ⟨x, fun _ _ => hx⟩
    · exact ⟨o, fun a c => absurd ⟨a, c⟩ hb⟩
  obtain ⟨F, hF⟩ : ∃ F : Nat → Obj → Obj, ∀ b o, S b → w.heap[b]? = some o → GhostO (Slf S) (I b) (F b o) o := ⟨fun b o => (h' b o).choose, fun b o => (h' b o).choose_spec⟩
  let wh : World := { w with heap := w.heap.mapIdx F }
  have hat : ∀ b, S b → ∃ x o, wh.heap[b]? = some x ∧ w.heap[b]? = some o ∧ GhostO (Slf S) (I b) x o := fun b hb => by
    obtain ⟨o, ho, _⟩ := hS b hb
    refine ⟨F b o, o, ?_, ho, hF b o hb ho⟩
    show (w.heap.mapIdx F)[b]? = _
    rw [Array.getElem?_mapIdx, ho]
    rfl
  have hsz : wh.heap.size = w.heap.size := by show (w.heap.mapIdx _).size = _; simp
  refine ⟨wh, ⟨fun a b c h k => h.1.symm.trans k.1, fun a b c h k => h.1.trans k.1.symm, ?_, fun a ha => ?_, rfl, rfl, fun a b h _ => h.1, ?_, hg⟩, hsz, rfl, rfl, rfl, rfl, hat⟩
  · rintro a _ ⟨rfl, ha⟩
    obtain ⟨x, o, h1, h2, h3⟩ := hat a ha
    exact ⟨x, o, h1, h2, h3.or⟩
  · obtain ⟨x, o, h1, h2, h3⟩ := hat a (hI a ha)
    cases h3 with
    | cells e f _ _ hn => exact absurd ha hn
    | ice e f _ _ _ => exact ⟨_, e, _, h1, Nat.le_max_left _ _⟩
  · show g ≤ wh.heap.size
    rw [hsz]; exact hg
end
end Ren
end Go.Proofs.YtdkpbobglogmoaaGreat
