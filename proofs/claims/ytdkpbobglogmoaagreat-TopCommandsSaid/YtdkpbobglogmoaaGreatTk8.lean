/- Parts of the proof of TopCommandsProof: PoolRest PoolTr PoolBes PoolKnown PoolSaid. -/
import Derived.Conc.CrowdTrace
import Derived.Conc.CrowdCom
import Derived.Conc.RingFork
import Derived.DuoClaim
import Derived.Test.YtdkpbobglogmoaaGreatTk6
import Derived.Test.YtdkpbobglogmoaaGreatTk7
set_option linter.unusedVariables false
set_option linter.unusedSimpArgs false
set_option maxRecDepth 100000
set_option maxHeartbeats 32000000
namespace Go.Proofs.YtdkpbobglogmoaaGreat
open Go Go.Conc
namespace Ren
section
variable {P : Program} {gl fs : Nat → Bool} {Z : Env} {R : Rel}
variable (P) in
def Hr (f : FuncId) (Q : Act → World → Prop) (g : Goroutine) (w : World) : Prop := ∃ a X m, g = gor { (base f).at a X with mode := m } [door P] ∧ Q a w ∧ (m = .run ∧ X = [] ∨ m = .returning)
theorem hr_callers {f : FuncId} {Q : Act → World → Prop} {g : Goroutine} {w : World} (h : Hr P f Q g w) : g.callers = [door P] ∧ (g.frame.mode = .run ∨ g.frame.mode = .returning) := by
  obtain ⟨a, X, m, rfl, _, hm⟩ := h
  exact ⟨rfl, hm.imp (fun x => x.1) id⟩
theorem hr_sinks {f : FuncId} {Q : Act → World → Prop} {g : Goroutine} {w : World} (h : Sinks P g) : ¬ Tree P (Hr P f Q) g w := by
  intro ht
  revert h
  induction ht with
  | @stop g w hs =>
    intro hk
    obtain ⟨c, hc⟩ := hk.mode
    rcases (hr_callers hs).2 with x | x <;> (rw [x] at hc; cases hc)
  | @step g w h1 _ ih =>
    intro hk
    obtain ⟨g1, w1, es, e⟩ := h1 w.tape w.drawn
    rcases hk.step (w := w.re w.tape w.drawn) with ⟨g2, e2, h2⟩ | ⟨o, w2, es2, e2⟩
    · exact ih _ _ _ _ _ e2 h2
    · rw [e] at e2; cases e2
theorem hr_home {f : FuncId} {Q : Act → World → Prop} {v : Value} {w : World} (h : Tree P (Hr P f Q) (gor ((door P).finish v) []) w) : False := by
  cases h with
  | stop hs => have := (hr_callers hs).1; simp [gor] at this
  | step h1 h2 =>
    obtain ⟨g1, w1, es, e⟩ := h1 w.tape w.drawn
    exact absurd e (home_ends _ _ _)
theorem hr_ends {f : FuncId} {Q : Act → World → Prop} (fr : Frame) (R : Rel) (gv : Goroutine) (w : World) (hG : GoR P gl fs (door P) [door P] R (gor fr [door P]) gv) (he : fr.todo = [] ∨ fr.mode = .returning) (ht : Tree P (Hr P f Q) (gor fr [door P]) w) : Hr P f Q (gor fr [door P]) w := by
  have hf : FrR P gl fs R fr gv.frame := hG.top
  have ret : ∀ (fr : Frame) w, fr.mode = .returning → fr.defers = [] → fr.kind = .normal → (∃ fn, P.funcs[fr.fn]? = some fn) → Tree P (Hr P f Q) (gor fr [door P]) w → Hr P f Q (gor fr [door P]) w := by
    intro fr w hr hd hk ⟨fn, hfn⟩ ht
    cases ht with
    | stop hs => exact hs
    | step h1 h2 =>
      exfalso
      obtain ⟨g1, w1, es, e⟩ := h1 w.tape w.drawn
      have e0 := e
      unfold stepG gor at e
      simp only [hr] at e
      unfold unwind at e
      simp only [hd, hr, hfn] at e
      revert e
      rcases (results fn fr.tmps).runT P (w.re w.tape w.drawn) #[] with ⟨r, es2⟩
      cases r with
      | halt h w => intro e; cases h <;> cases e
      | ok v w2 =>
        intro e
        have dr : doReturn P true fr [door P] none v w2 = .go (gor ((door P).finish v) []) w2 := by
          unfold doReturn
          dsimp only
          rw [hk]
          rfl
        simp only [dr, GStep.after] at e
        injection e with q1 q2 q3
        subst q1 q2 q3
        exact hr_home (h2 _ _ _ _ _ e0)
  rcases hf.run with hm | hm
  · rcases he with he | he
    · cases ht with
      | stop hs => exact hs
      | step h1 h2 =>
        have go : stepG P true (gor fr [door P]) (w.re w.tape w.drawn) = .go (gor { fr with mode := .returning } [door P]) (w.re w.tape w.drawn) #[] := by
          rw [stepG_run hm]
          unfold stepG.exec
          simp only [he, hf.round.1]
          rfl
        have := ret { fr with mode := .returning } _ rfl hf.defers.1 hf.kind.1 hf.there (h2 _ _ _ _ _ go)
        obtain ⟨a, X, m, e, hq, hmm⟩ := this
        have e1 := congrArg (fun g => g.frame.fn) e
        have e2 := congrArg (fun g => g.frame.tmps) e
        have e3 := congrArg (fun g => g.frame.defers) e
        have e4 := congrArg (fun g => g.frame.kind) e
        have e5 := congrArg (fun g => g.frame.roundOf) e
        obtain ⟨fn0, t0, td0, d0, m0, k0, r0⟩ := fr
        simp only [gor, base, Frame.at] at e1 e2 e3 e4 e5 hm he
        subst e1 e2 e3 e4 e5 hm he
        exact ⟨a, [], .run, rfl, hq, .inl ⟨rfl, rfl⟩⟩
    · rw [hm] at he; cases he
  · exact ret _ _ hm hf.defers.1 hf.kind.1 hf.there ht
theorem Sinks.no_hr {f : FuncId} {Q : Act → World → Prop} : ∀ (n : Nat) {g : Goroutine} (h : Sinks P g) {w : World} {g1 : Goroutine} {w1 : World}, iter P n g w = some (g1, w1) → ¬ Hr P f Q g1 w1 := by
  intro n
  induction n with
  | zero =>
    intro g h w g1 w1 e hs
    cases e
    obtain ⟨c, hc⟩ := h.mode
    rcases (hr_callers hs).2 with x | x <;> (rw [x] at hc; cases hc)
  | succ n ih =>
    intro g h w g1 w1 e
    unfold iter at e
    rcases h.step (w := w) with ⟨g2, e2, h2⟩ | ⟨o, w2, es, e2⟩
    · rw [e2] at e
      exact ih h2 e
    · rw [e2] at e
      cases e
variable (hg : P.globals.size ≤ Z.glob) (HF : Frag P gl fs Z)
include hg HF
theorem rest_tree {f : FuncId} {Q : Act → World → Prop} (hpost : ∀ a w τ d, Q a w → Q a (w.re τ d)) {fr : Frame} {w0 : World}
    (hl : Live P gl fs Z (gor fr [door P]) w0)
    (h : ∀ τ d, ∃ a' w' X m, Q a' w' ∧ (m = .run ∧ X = [] ∨ m = .returning) ∧ Steps P (lone fr [door P] (w0.re τ d)) (lone { (base f).at a' X with mode := m } [door P] w')) :
    Tree P (Hr P f Q) (gor fr [door P]) w0 := by
  have dead : ∀ v w, ¬ Reaches P (Hr P f Q) (gor ((door P).finish v) []) w := fun v w => reaches_not (home_ends) fun hs => by have := (hr_callers hs).1; simp [gor] at this
  refine tree_of (Live := Live P gl fs Z) ?_ ?_ ?_ ?_ hl fun τ d => ?_
  · rintro g w ⟨R, K, g', w', hK, hG, hW, hgl⟩ hs
    exact step_lcl hg HF hgl hG hW
  · rintro g w g1 w1 es ⟨R, K, g', w', hK, hG, hW, hgl⟩ hs e
    have key := step_like (main := true) hg HF hgl hK hG hW
    rw [e] at key
    rcases key with ⟨R1, g1', w1', es', e', t, he, h1 | h1⟩ | h1
    · exact .inl ⟨R1, K, g1', w1', hK, h1, t.wr, fun x hx => t.le _ _ (hgl x hx)⟩
    · obtain ⟨⟨v, u, k, K', hv, e1, e2, e3, e4, e5⟩, ⟨e6, _⟩, ⟨e7, _⟩, ⟨e8, _⟩⟩ := h1
      obtain ⟨f0, c0, s0, d0, o0⟩ := g1
      simp only at e2 e3 e6 e7 e8
      subst e2 e3 e6 e7 e8
      exact .inr (.inr fun τ d => dead v _)
    · exact .inr (.inr fun τ d ⟨n, g2, w2, e2, s⟩ => h1.sinks.no_hr n e2 s)
  · rintro g w τ d ⟨R, K, g', w', hK, hG, hW, hgl⟩
    exact ⟨R, K, g', w'.re τ d, hK, hG, hW.re τ d, hgl⟩
  · rintro g w τ d ⟨a, X, m, e, hp, hm⟩
    exact ⟨a, X, m, e, hpost _ _ _ _ hp, hm⟩
  · obtain ⟨a', w', X', m, hp, hmm, n, hn⟩ := h τ d
    refine ⟨n, gor { (base f).at a' X' with mode := m } [door P], w', runN_iter (Cls := fun g w => Live P gl fs Z g w ∨ (∃ v, g = gor ((door P).finish v) []) ∨ Sinks P g) ?_ ?_ ?_ n (gor fr [door P]) _ _ _ _ ?_ hn, a', X', m, rfl, hp, hmm⟩
    · rintro g w (⟨R, K, g', w', hK, hG, hW, hgl⟩ | ⟨v, rfl⟩ | hk)
      · exact ⟨hG.st.1, hG.dy.1, hG.of.1⟩
      · exact ⟨rfl, rfl, rfl⟩
      · exact ⟨hk.st, hk.dy, hk.of⟩
    · rintro g w g1 w1 es (⟨R, K, g', w', hK, hG, hW, hgl⟩ | ⟨v, rfl⟩ | hk) e
      · have key := step_like (main := true) hg HF hgl hK hG hW
        rw [e] at key
        rcases key with ⟨R1, g1', w1', es', e', t, he, h1 | h1⟩ | h1
        · exact .inl ⟨R1, K, g1', w1', hK, h1, t.wr, fun x hx => t.le _ _ (hgl x hx)⟩
        · obtain ⟨⟨v, u, k, K', hv, e1, e2, e3, e4, e5⟩, ⟨e6, _⟩, ⟨e7, _⟩, ⟨e8, _⟩⟩ := h1
          obtain ⟨f0, c0, s0, d0, o0⟩ := g1
          simp only at e2 e3 e6 e7 e8
          subst e2 e3 e6 e7 e8
          exact .inr (.inl ⟨v, rfl⟩)
        · exact .inr (.inr h1.sinks)
      · exact absurd e (home_ends _ _ _)
      · rcases hk.step (w := w) with ⟨g2, e2, h2⟩ | ⟨o, w2, es2, e2⟩
        · rw [e] at e2
          cases e2
          exact .inr (.inr h2)
        · rw [e] at e2
          cases e2
    · rintro g w (⟨R, K, g', w', hK, hG, hW, hgl⟩ | ⟨v, rfl⟩ | hk)
      · have key := step_like (main := true) hg HF hgl hK hG hW
        revert key
        cases e : stepG P true g w with
        | go g1 w1 es => intro _; exact .inl ⟨_, _, _, rfl⟩
        | ended o w1 es => intro _; exact .inr ⟨_, _, _, rfl⟩
        | _ => intro key; exact key.elim
      · refine .inr ?_
        unfold stepG gor door Frame.finish
        simp only
        unfold stepG.exec
        simp only [no_row, Option.elim]
        exact ⟨_, _, _, rfl⟩
      · rcases hk.step (w := w) with ⟨g2, e2, h2⟩ | ⟨o, w2, es2, e2⟩
        · exact .inl ⟨_, _, _, e2⟩
        · exact .inr ⟨_, _, _, e2⟩
    · obtain ⟨R, K, g', w', hK, hG, hW, hgl⟩ := hl
      exact .inl ⟨R, K, g', w'.re τ d, hK, hG, hW.re τ d, hgl⟩
theorem gt_ret {T : Terms} {Stop : Nat → (Nat → Prop) → Goroutine → World → Prop} {K : List Frame} {H : Nat → Bool} {d : Nat} {f : FuncId} {Q : Act → World → Prop} {X : List Item} {a : Act}
    {Av : Nat → Prop} (hAv : ∀ b, T.Cold b → Av b) (hT : T.P = P) (hcm : ¬ T.Calm)
    (hliv : ∀ (O : Nat → Prop) w w' es, (∀ b, O b → ¬ Av b) → Did T.Cold O T.Say w w' es → T.Liv w → T.Liv w')
    (hpost : ∀ a w τ d, Q a w → Q a (w.re τ d)) (hfn : ∃ fn, P.funcs[f]? = some fn) (hX : ∀ x ∈ X, okItem P gl fs x = true) (hsee : ∀ x ∈ X, seesI H x = true) (ha : a.defers = [])
    {wh : World} (h : ∀ τ d, ∃ a' w' X' m, Q a' w' ∧ (m = .run ∧ X' = [] ∨ m = .returning) ∧ Steps P (lone ((base f).at a X) [door P] (wh.re τ d)) (lone { (base f).at a' X' with mode := m } [door P] w'))
    {R : Rel} {O : Nat → Prop} {tmv tm : Array Value} {w : World} (hgl : ∀ x, gl x = true → R x x) (htm : VsR R a.tmps tmv) (hsm : SameT H tm tmv tm) (hW : WR Z R wh w)
    (hR : ∀ a b, R a b → (Z a ∧ T.Cold b) ∨ O b) (hO : ∀ b, O b → ¬ Av b) (hC : ∀ b, Av b → b < w.heap.size)
    (hk : ∀ R1 O1 a1 tmv1 tm1 wh1 w1, Q a1 wh1 → a1.defers = [] → VsR R1 a1.tmps tmv1 → SameT H tm tmv1 tm1 → R.Le R1 → WR Z R1 wh1 w1 → (∀ a b, R1 a b → (Z a ∧ T.Cold b) ∨ O1 b) → (∀ b, O b → O1 b) → (∀ b, O1 b → ¬ Av b) → Since T.Cold T.Liv w w1 →
        ∀ X1 m1, (m1 = .run ∧ X1 = [] ∨ m1 = .returning) → Gt T Stop d O1 (gor { fram f tm1 X1 ([], .normal) with mode := m1 } K) w1) :
    Gt T Stop d O (gor (fram f tm X ([], .normal)) K) w := by
  have hG : GoR P gl fs (door P) [door P] R (gor ((base f).at a X) [door P]) (gor (fram f tmv X ([], .normal)) [door P]) :=
    ⟨⟨[], [], rfl, rfl, .nil⟩, ⟨rfl, htm, rfl, hX, ⟨ha, rfl⟩, rfl, .inl rfl, ⟨rfl, rfl⟩, ⟨rfl, rfl⟩, hfn⟩, ⟨rfl, rfl⟩, ⟨rfl, rfl⟩, ⟨rfl, rfl⟩⟩
  have tr := rest_tree hg HF (f := f) hpost (fr := (base f).at a X) ⟨R, [door P], _, w, by simp, hG, hW, hgl⟩ h
  refine gt_of_piece (Hd := H) (z := tm) (t := .app []) (ds := ([], .normal)) (K := K) rfl hAv hT hcm hg HF hliv (fun g w => hr_sinks) (fun fr R gv w => hr_ends fr R gv w) tr hgl hG (.top (.inl rfl) trivial hsee ⟨tm, by simp [Tail.glue], hsm⟩) hW hR hO hC ?_
  rintro R1 O1 gh1 gv1 gr1 wh1 w1 ⟨a1, X1, m1, rfl, hq, hm1⟩ hG1 hE1 le hW1 hR1 hOO hO1 sn
  have hf : FrR P gl fs R1 { (base f).at a1 X1 with mode := m1 } gv1.frame := hG1.top
  have e : ∃ tm1, gv1 = gor { fram f tm1 X1 ([], .normal) with mode := m1 } [door P] ∧ VsR R1 a1.tmps tm1 := by
    obtain ⟨⟨l, m, q1, q2, q3⟩, _, ⟨_, q5⟩, ⟨_, q6⟩, _, q7⟩ := hG1
    have hl : l = [] := by
      cases l with
      | nil => rfl
      | cons x l => simp [gor] at q1
    subst hl
    cases q3 with
    | nil =>
      obtain ⟨fr, cs, st, dy, off⟩ := gv1
      obtain ⟨f0, t0, td, d0, m0, k0, r0⟩ := fr
      obtain ⟨p1, p2, p3, p4, ⟨p5, p6⟩, p7, p8, ⟨p9, p10⟩, ⟨p11, p12⟩, p13⟩ := hf
      simp only at q2 q5 q6 q7 p1 p2 p3 p6 p7 p10 p12
      subst q2 q5 q6 q7 p6 p10 p12
      have p1 : f = f0 := p1
      have p3 : X1 = td := p3
      have p7 : m1 = m0 := p7
      subst p1 p3 p7
      exact ⟨t0, rfl, p2⟩
  obtain ⟨tm1, rfl, hv⟩ := e
  have er : ∃ tm2, gr1 = gor { fram f tm2 X1 ([], .normal) with mode := m1 } K ∧ SameT H tm tm1 tm2 := by
    generalize hgv : gor { fram f tm1 X1 ([], .normal) with mode := m1 } [door P] = gv at hE1
    cases hE1 with
    | top _ _ _ ho =>
      injection hgv with q1
      subst q1
      obtain ⟨tm2, rfl, hs2⟩ := ho
      exact ⟨tm2, by simp [Tail.glue], hs2⟩
    | @deep fr b b' l _ _ _ _ => injection hgv with _ q2; have := congrArg List.length q2; simp at this
  obtain ⟨tm2, rfl, hs2⟩ := er
  exact hk R1 O1 a1 tm1 tm2 wh1 w1 hq hf.defers.1 hv hs2 le hW1 hR1 hOO hO1 sn X1 m1 hm1
omit hg HF in
theorem steps_rest {c : Code} {f : FuncId} {fn : Func} {Q : Act → World → Prop} {a : Act} {w : World} (h : c.wp P (fun e a w => (e = .normal ∨ e = .ret) ∧ Q a w) a w) :
    ∃ a' w' X m, Q a' w' ∧ (m = .run ∧ X = [] ∨ m = .returning) ∧ Steps P (lone ((base f).at a [.code c]) [door P] w) (lone { (base f).at a' X with mode := m } [door P] w') := by
  obtain ⟨e, a', w', ⟨he, hq⟩, hs⟩ := h (base f) [] [door P]
  rcases he with rfl | rfl
  · exact ⟨a', w', [], .run, hq, .inl ⟨rfl, rfl⟩, hs⟩
  · obtain ⟨todo, hs⟩ := hs
    exact ⟨a', w', todo, .returning, hq, .inr rfl, hs⟩
end
end Ren
end Go.Proofs.YtdkpbobglogmoaaGreat
namespace Go.Proofs.YtdkpbobglogmoaaGreat
open Go Go.Conc
namespace Pool
open Ren (Loc.blk)
structure Lay where
  own : Nat → Nat → Prop
  fl : Nat → Nat → Prop
  Cold : Nat → Prop
  Sb : Nat → Prop
structure Lay.Apart (L : Lay) : Prop where
  oo : ∀ g g' b, L.own g b → L.own g' b → g = g'
  of : ∀ g k b, L.own g b → ¬ L.fl k b
  oc : ∀ g b, L.own g b → ¬ L.Cold b
  os : ∀ g b, L.own g b → ¬ L.Sb b
  ff : ∀ k k' b, L.fl k b → L.fl k' b → k = k'
  fc : ∀ k b, L.fl k b → ¬ L.Cold b
  fs : ∀ k b, L.fl k b → ¬ L.Sb b
  cs : ∀ b, L.Cold b → ¬ L.Sb b
structure PT (L : Lay) (C Wg : Nat) (Shun : Loc → Prop) (B : Nat) (kid : Nat → Prop) (who : Nat) (t : Trace) : Prop where
  clean : ∀ said, ¬ Race said t
  own : ∀ g b, L.own g b → ∀ i a, touchAt t i = some a → Loc.blk a.loc = some b → Knows t g i
  fly : ∀ k b, L.fl k b → ∃ p, t.act? p = some (.send C k) ∧ t.heard p ∧ ∀ i a, touchAt t i = some a → Loc.blk a.loc = some b → Before t i p
  cold : ∀ b, L.Cold b → ∀ i a, touchAt t i = some a → Loc.blk a.loc = some b → a.write = true → ∀ g, (g = 0 ∨ kid g) → Knows t g i
  sh : ∀ b, L.Sb b → ∀ i a, touchAt t i = some a → Loc.blk a.loc = some b → a.kind ≠ .plain ∧ (a.kind = .said → Knows t who i)
  old : ∀ i g a, t.g? i = some g → g ≠ 0 → ¬ kid g → touchAt t i = some a → a.loc.isMemory = true → Knows t 0 i ∨ (Shun a.loc ∧ a.kind = .atomic)
  over : ∀ i g, t.g? i = some g → g ≠ 0 → ¬ kid g → t.counts i → ∃ j, t.g? j = some 0 ∧ HappensBefore t i j
  seen : ∀ op ∈ t, op.act.low B
  norel : NoRelease ⟨Wg, 0, none⟩ t
theorem blk_low {l : Loc} {b B : Nat} (h : Loc.blk l = some b) (hl : l.low B) : b < B := by
  cases l with
  | cell a => cases h; exact hl
  | obj r => cases h; exact hl
  | _ => cases h
theorem low_of_touch {x : MemAct} {a : Touch} {B : Nat} (h : x.touch? = some a) (hl : x.low B) : a.loc.low B := by
  cases x with
  | access e => cases h; exact hl
  | mark m => cases m <;> first | (cases h; exact hl) | cases h
  | _ => cases h
section
variable {L : Lay} {C Wg : Nat} {Shun : Loc → Prop} {B : Nat} {kid : Nat → Prop} {who : Nat} {t u : Trace}
theorem PT.touch_lt (h : PT L C Wg Shun B kid who t) {i : Nat} {a : Touch} {b : Nat} (ha : touchAt t i = some a) (hb : Loc.blk a.loc = some b) : b < B := by
  obtain ⟨op, hop, hoa⟩ := touch_of ha
  exact blk_low hb (low_of_touch hoa (h.seen op (Array.mem_of_getElem? hop)))
def OkT (L : Lay) (who g : Nat) (x : Touch) : Prop :=
  ∃ b, Loc.blk x.loc = some b ∧ (L.own g b ∨ (L.Cold b ∧ x.write = false) ∨ (L.Sb b ∧ x.kind = .atomic) ∨ (L.Sb b ∧ x.kind = .said ∧ who = g))
theorem touch_cases {i : Nat} {a : Touch} (ha : touchAt (t ++ u) i = some a) : (i < t.size ∧ touchAt t i = some a) ∨ (t.size ≤ i ∧ ∃ op ∈ u, (t ++ u)[i]? = some op ∧ op.act.touch? = some a) := by
  obtain ⟨x, hx, hxa⟩ := touch_of ha
  rcases getElem?_append_cases hx with ⟨hi, hx'⟩ | ⟨hi, hxu⟩
  · exact .inl ⟨hi, by rw [touchAt_of hx']; exact hxa⟩
  · exact .inr ⟨hi, x, hxu, hx, hxa⟩
theorem g?_lt {i g : Nat} (h : t.g? i = some g) : i < t.size := by
  unfold Trace.g? at h
  obtain ⟨z, hz, _⟩ := Option.map_eq_some_iff.1 h
  exact lt_size_of_getElem? hz
theorem g?_app {i g : Nat} (h : t.g? i = some g) : (t ++ u).g? i = some g := by rw [show (t ++ u).g? i = t.g? i by simp only [Trace.g?, getElem?_append_old (g?_lt h)]]; exact h
theorem g?_cases {i g : Nat} (h : (t ++ u).g? i = some g) : (i < t.size ∧ t.g? i = some g) ∨ (t.size ≤ i ∧ ∃ op ∈ u, (t ++ u)[i]? = some op ∧ op.g = g) := by
  unfold Trace.g? at h
  obtain ⟨z, hz, hg⟩ := Option.map_eq_some_iff.1 h
  rcases getElem?_append_cases hz with ⟨hi, hx'⟩ | ⟨hi, hxu⟩
  · exact .inl ⟨hi, by simp [Trace.g?, hx', hg]⟩
  · exact .inr ⟨hi, z, hxu, hz, hg⟩
theorem PT.app (A : L.Apart) (h : PT L C Wg Shun B kid who t) {g : Nat} (hu : ∀ op ∈ u, op.g = g) (hg : (∀ op ∈ u, op.act.touch? = none) ∨ g = 0 ∨ kid g)
    (hok : ∀ op ∈ u, ∀ x, op.act.touch? = some x → OkT L who g x) (hl : ∀ op ∈ u, op.act.low B) (hn : ∀ op ∈ u, op.act ≠ .mark (.release ⟨Wg, 0, none⟩)) : PT L C Wg Shun B kid who (t ++ u) := by
  have new : ∀ i a, t.size ≤ i → (∃ op ∈ u, (t ++ u)[i]? = some op ∧ op.act.touch? = some a) → Knows (t ++ u) g i ∧ OkT L who g a := by
    rintro i a hi ⟨op, hop, hx, hxa⟩
    refine ⟨?_, hok op hop a hxa⟩
    have := knows_own hx
    rwa [hu op hop] at this
  refine ⟨fun said => ?_, fun g' b hb i a ha hbl => ?_, fun k b hb => ?_, fun b hb i a ha hbl hw g' hg' => ?_, fun b hb i a ha hbl => ?_, fun i g' a hgi h0 hk ha hm => ?_, fun i g' hgi h0 hk hc => ?_, seen_app h.seen hl, h.norel.app hn⟩
  · refine noRace_append (h.clean said) hu fun i a ha op hop b hb hc => ?_
    obtain ⟨x, hx, hcase⟩ := hok op hop b hb
    have hax : Loc.blk a.loc = some x := hc.1 ▸ hx
    rcases hcase with ho | ⟨hco, hr⟩ | ⟨hs, hk⟩ | ⟨hs, hk, hw⟩
    · exact h.own g x ho i a ha hax
    · have hg2 : g = 0 ∨ kid g := hg.resolve_left fun e => by rw [e op hop] at hb; cases hb
      exact h.cold x hco i a ha hax (hc.2.2.1.resolve_right (by simp [hr])) g hg2
    · obtain ⟨h1, _⟩ := h.sh x hs i a ha hax
      rcases hc.2.2.2 with e | e | ⟨_, _, e⟩
      · exact absurd e h1
      · rw [hk] at e; cases e
      · rw [hk] at e; cases e
    · obtain ⟨h1, h2⟩ := h.sh x hs i a ha hax
      rcases hc.2.2.2 with e | e | ⟨_, e, _⟩
      · exact absurd e h1
      · rw [hk] at e; cases e
      · exact hw ▸ h2 e
  · rcases touch_cases ha with ⟨hi, ha'⟩ | ⟨hi, hn'⟩
    · exact (h.own g' b hb i a ha' hbl).app u
    · obtain ⟨k1, x, hx, hcase⟩ := new i a hi hn'
      rw [hbl] at hx
      cases hx
      rcases hcase with ho | ⟨hco, _⟩ | ⟨hs, _⟩ | ⟨hs, _⟩
      · rw [A.oo g' g b hb ho]; exact k1
      · exact absurd hco (A.oc g' b hb)
      · exact absurd hs (A.os g' b hb)
      · exact absurd hs (A.os g' b hb)
  · obtain ⟨p, h1, h2, h3⟩ := h.fly k b hb
    have hp := lt_of_act? h1
    refine ⟨p, by rw [act?_old hp]; exact h1, (heard_old hp).2 h2, fun i a ha hbl => ?_⟩
    rcases touch_cases ha with ⟨hi, ha'⟩ | ⟨hi, hn'⟩
    · exact (h3 i a ha' hbl).app u
    · obtain ⟨k1, x, hx, hcase⟩ := new i a hi hn'
      rw [hbl] at hx
      cases hx
      rcases hcase with ho | ⟨hco, _⟩ | ⟨hs, _⟩ | ⟨hs, _⟩
      · exact absurd hb (A.of g k b ho)
      · exact absurd hco (A.fc k b hb)
      · exact absurd hs (A.fs k b hb)
      · exact absurd hs (A.fs k b hb)
  · rcases touch_cases ha with ⟨hi, ha'⟩ | ⟨hi, hn'⟩
    · exact (h.cold b hb i a ha' hbl hw g' hg').app u
    · obtain ⟨k1, x, hx, hcase⟩ := new i a hi hn'
      rw [hbl] at hx
      cases hx
      rcases hcase with ho | ⟨hco, hr⟩ | ⟨hs, _⟩ | ⟨hs, _⟩
      · exact absurd hb (A.oc g b ho)
      · rw [hr] at hw; cases hw
      · exact absurd hs (A.cs b hb)
      · exact absurd hs (A.cs b hb)
  · rcases touch_cases ha with ⟨hi, ha'⟩ | ⟨hi, hn'⟩
    · obtain ⟨h1, h2⟩ := h.sh b hb i a ha' hbl
      exact ⟨h1, fun e => (h2 e).app u⟩
    · obtain ⟨k1, x, hx, hcase⟩ := new i a hi hn'
      rw [hbl] at hx
      cases hx
      rcases hcase with ho | ⟨hco, hr⟩ | ⟨hs, hk⟩ | ⟨hs, hk, hw⟩
      · exact absurd hb (A.os g b ho)
      · exact absurd hb (A.cs b hco)
      · exact ⟨by rw [hk]; simp, fun e => by rw [hk] at e; cases e⟩
      · exact ⟨by rw [hk]; simp, fun _ => hw ▸ k1⟩
  · rcases touch_cases ha with ⟨hi, ha'⟩ | ⟨hi, op, hop, hx, hxa⟩
    · rcases g?_cases hgi with ⟨_, hg'⟩ | ⟨hi', _⟩
      · exact (h.old i g' a hg' h0 hk ha' hm).imp (·.app u) id
      · omega
    · rcases g?_cases hgi with ⟨hi', _⟩ | ⟨_, op', hop', hx', hg'⟩
      · omega
      · rw [hx] at hx'
        cases hx'
        rcases hg with e | e | e
        · rw [e op hop] at hxa; cases hxa
        · exact absurd (hg'.symm.trans ((hu op hop).trans e)) h0
        · exact absurd (hg' ▸ (hu op hop) ▸ e) hk
  · rcases g?_cases hgi with ⟨hi', hg'⟩ | ⟨hi', op', hop', hx', hg'⟩
    · obtain ⟨j, hj, hb⟩ := h.over i g' hg' h0 hk ((counts_old hi').1 hc)
      exact ⟨j, g?_app hj, hb_app u hb⟩
    · obtain ⟨x, hx, _⟩ := hc
      obtain ⟨op, hop, hox⟩ := touch_of hx
      rw [hx'] at hop
      cases hop
      rcases hg with e | e | e
      · rw [e op' hop'] at hox; cases hox
      · exact absurd (hg'.symm.trans ((hu op' hop').trans e)) h0
      · exact absurd (hg' ▸ (hu op' hop') ▸ e) hk
theorem PT.mute (h : PT L C Wg Shun B kid who t) (hu : ∀ op ∈ u, op.act.touch? = none) (hl : ∀ op ∈ u, op.act.low B) (hn : ∀ op ∈ u, op.act ≠ .mark (.release ⟨Wg, 0, none⟩)) : PT L C Wg Shun B kid who (t ++ u) := by
  have old : ∀ i a, touchAt (t ++ u) i = some a → i < t.size ∧ touchAt t i = some a := fun i a ha => by
    rcases touch_cases ha with h' | ⟨_, op, hop, _, hxa⟩
    · exact h'
    · rw [hu op hop] at hxa; cases hxa
  refine ⟨fun said => ?_, fun g b hb i a ha hbl => (h.own g b hb i a (old i a ha).2 hbl).app u, fun k b hb => ?_, fun b hb i a ha hbl hw g hg => (h.cold b hb i a (old i a ha).2 hbl hw g hg).app u, fun b hb i a ha hbl => ?_,
    fun i g a hg h0 hk ha hm => ?_, fun i g hg h0 hk hc => ?_, seen_app h.seen hl, h.norel.app hn⟩
  · rintro ⟨i, j, hij, ⟨a, b, ha, hb, hc⟩, n1, n2⟩
    obtain ⟨hi, ha'⟩ := old i a ha
    obtain ⟨hj, hb'⟩ := old j b hb
    exact h.clean said ⟨i, j, hij, ⟨a, b, ha', hb', hc⟩, fun e => n1 (hb_app u e), fun e => n2 (hb_app u e)⟩
  · obtain ⟨p, h1, h2, h3⟩ := h.fly k b hb
    have hp := lt_of_act? h1
    exact ⟨p, by rw [act?_old hp]; exact h1, (heard_old hp).2 h2, fun i a ha hbl => (h3 i a (old i a ha).2 hbl).app u⟩
  · obtain ⟨h1, h2⟩ := h.sh b hb i a (old i a ha).2 hbl
    exact ⟨h1, fun e => (h2 e).app u⟩
  · obtain ⟨hi, ha'⟩ := old i a ha
    rcases g?_cases hg with ⟨_, hg'⟩ | ⟨hi', _⟩
    · exact (h.old i g a hg' h0 hk ha' hm).imp (·.app u) id
    · omega
  · obtain ⟨x, hx, hx2⟩ := hc
    obtain ⟨hi, _⟩ := old i x hx
    rcases g?_cases hg with ⟨_, hg'⟩ | ⟨hi', _⟩
    · obtain ⟨j, hj, hb⟩ := h.over i g hg' h0 hk ((counts_old hi).1 ⟨x, hx, hx2⟩)
      exact ⟨j, g?_app hj, hb_app u hb⟩
    · omega
theorem PT.fresh (h : PT L C Wg Shun B kid who t) {B' : Nat} (hB : B ≤ B') {own' : Nat → Nat → Prop} (ho : ∀ g b, own' g b → L.own g b ∨ B ≤ b) : PT { L with own := own' } C Wg Shun B' kid who t := by
  refine ⟨h.clean, fun g b hb i a ha hbl => ?_, h.fly, h.cold, h.sh, h.old, h.over, fun op hop => MemAct.low_mono hB (h.seen op hop), h.norel⟩
  rcases ho g b hb with h' | h'
  · exact h.own g b h' i a ha hbl
  · have := h.touch_lt ha hbl
    omega
theorem PT.give (h : PT L C Wg Shun B kid who t) (hu : ∀ op ∈ u, op.act.touch? = none) (hl : ∀ op ∈ u, op.act.low B) (hn : ∀ op ∈ u, op.act ≠ .mark (.release ⟨Wg, 0, none⟩))
    {g k p : Nat} {y : MemOp} (hp : t.size ≤ p) (hy : (t ++ u)[p]? = some y) (hg : y.g = g) (ha : y.act = .send C k) (hh : (t ++ u).heard p) {own' fl' : Nat → Nat → Prop} (ho : ∀ g' b, own' g' b → L.own g' b) (hf : ∀ k' b, fl' k' b → L.fl k' b ∨ (k' = k ∧ L.own g b)) :
    PT { L with own := own', fl := fl' } C Wg Shun B kid who (t ++ u) := by
  have m := h.mute hu hl hn
  refine ⟨m.clean, fun g' b hb => m.own g' b (ho g' b hb), fun k' b hb => ?_, m.cold, m.sh, m.old, m.over, m.seen, m.norel⟩
  rcases hf k' b hb with h' | ⟨rfl, h'⟩
  · exact m.fly k' b h'
  · refine ⟨p, by rw [act?_of hy, ha], hh, fun i a hta hbl => ?_⟩
    rcases touch_cases hta with ⟨hi, hta'⟩ | ⟨_, op, hop, _, hxa⟩
    · exact .inr ((h.own g b h' i a hta' hbl).hb_new hp hy hg)
    · rw [hu op hop] at hxa; cases hxa
theorem PT.take (h : PT L C Wg Shun B kid who t) {k q : Nat} (hq : t.act? q = some (.recvDone C k)) (hg : t.g? q = some 0) (hh : t.heard q) {own' fl' : Nat → Nat → Prop} (hf : ∀ k' b, fl' k' b → L.fl k' b) (ho : ∀ g b, own' g b → L.own g b ∨ (g = 0 ∧ L.fl k b)) :
    PT { L with own := own', fl := fl' } C Wg Shun B kid who t := by
  refine ⟨h.clean, fun g b hb i a ha hbl => ?_, fun k' b hb => h.fly k' b (hf k' b hb), h.cold, h.sh, h.old, h.over, h.seen, h.norel⟩
  rcases ho g b hb with h' | ⟨rfl, h'⟩
  · exact h.own g b h' i a ha hbl
  · obtain ⟨p, h1, h2, h3⟩ := h.fly k b h'
    have edge : HappensBefore t p q := .single (.inr ⟨.handOver h1 hq, h2, hh⟩)
    obtain ⟨z, hz, hzg⟩ := Option.map_eq_some_iff.1 hg
    exact ⟨q, z, hz, hzg, .inr ((h3 i a ha hbl).hb edge)⟩
theorem PT.fork (h : PT L C Wg Shun B kid who t) {c : Nat} {x y : MemOp} (hx : x.g = 0 ∧ x.act = .go c) (hy : y.g = c ∧ y.act = .start) (h0 : Deaf t 0 = 0) (hc : Deaf t c = 0) {who' : Nat} (hw : who' = who ∨ (who = 0 ∧ who' = c)) :
    PT L C Wg Shun B (fun g => kid g ∨ g = c) who' (t ++ #[x, y]) := by
  have hn : ∀ op ∈ (#[x, y] : Trace), op = x ∨ op = y := fun op hop => by simpa using hop
  have m := h.mute (u := #[x, y]) (fun op hop => by rcases hn op hop with rfl | rfl; · rw [hx.2]; rfl
                                                    · rw [hy.2]; rfl)
    (fun op hop => by rcases hn op hop with rfl | rfl; · rw [hx.2]; trivial
                      · rw [hy.2]; trivial)
    (fun op hop => by rcases hn op hop with rfl | rfl; · rw [hx.2]; simp
                      · rw [hy.2]; simp)
  have old : ∀ i a, touchAt (t ++ #[x, y]) i = some a → touchAt t i = some a := fun i a ha => by
    rcases touch_cases ha with ⟨_, h'⟩ | ⟨_, op, hop, _, hxa⟩
    · exact h'
    · rcases hn op hop with rfl | rfl
      · rw [hx.2] at hxa; cases hxa
      · rw [hy.2] at hxa; cases hxa
  refine ⟨m.clean, m.own, m.fly, fun b hb i a ha hbl hwr g hg => ?_, fun b hb i a ha hbl => ?_, fun i g a hg h0' hk => m.old i g a hg h0' (fun e => hk (.inl e)), fun i g hg h0' hk => m.over i g hg h0' (fun e => hk (.inl e)), m.seen, m.norel⟩
  · rcases hg with hg | hg | rfl
    · exact m.cold b hb i a ha hbl hwr g (.inl hg)
    · exact m.cold b hb i a ha hbl hwr g (.inr hg)
    · exact Go.ConcN.fork_knows hx hy h0 hc (h.cold b hb i a (old i a ha) hbl hwr 0 (.inl rfl))
  · obtain ⟨h1, h2⟩ := m.sh b hb i a ha hbl
    refine ⟨h1, fun e => ?_⟩
    rcases hw with rfl | ⟨rfl, rfl⟩
    · exact h2 e
    · exact Go.ConcN.fork_knows hx hy h0 hc ((h.sh b hb i a (old i a ha) hbl).2 e)
end
structure Rel (Wg : Nat) (t : Trace) (g r : Nat) : Prop where
  act : t.act? r = some (.mark (.releaseMerge ⟨Wg, 0, none⟩))
  by_ : t.g? r = some g
  heard : t.heard r
  after : ∀ i, r < i → t.g? i = some g → ∀ a, touchAt t i = some a → Loc.blk a.loc = some Wg ∧ a.kind = .atomic ∧ ¬ t.heard i
theorem Rel.app {Wg : Nat} {t u : Trace} {g r : Nat} (h : Rel Wg t g r) (hu : ∀ i op, t.size ≤ i → (t ++ u)[i]? = some op → op.g = g → ∀ a, op.act.touch? = some a → Loc.blk a.loc = some Wg ∧ a.kind = .atomic ∧ ¬ (t ++ u).heard i) : Rel Wg (t ++ u) g r := by
  have hr := lt_of_act? h.act
  refine ⟨by rw [act?_old hr]; exact h.act, g?_app h.by_, (heard_old hr).2 h.heard, fun i hi hg a ha => ?_⟩
  rcases touch_cases ha with ⟨hi', ha'⟩ | ⟨hi', op, hop, hx, hxa⟩
  · rcases g?_cases hg with ⟨_, hg'⟩ | ⟨hi2, _⟩
    · obtain ⟨h1, h2, h3⟩ := h.after i hi hg' a ha'
      exact ⟨h1, h2, fun e => h3 ((heard_old hi').1 e)⟩
    · omega
  · rcases g?_cases hg with ⟨hi2, _⟩ | ⟨_, op', _, hx', hg'⟩
    · omega
    · rw [hx] at hx'
      cases hx'
      exact hu i op hi' hx hg' a hxa
theorem Rel.other {Wg : Nat} {t u : Trace} {g r g' : Nat} (h : Rel Wg t g r) (hu : ∀ op ∈ u, op.g = g') (hg : g' ≠ g) : Rel Wg (t ++ u) g r :=
  h.app fun i op hi hop e => by
    rcases getElem?_append_cases hop with ⟨hlt, _⟩ | ⟨_, hm⟩
    · omega
    · exact absurd ((hu op hm).symm.trans e) hg
theorem Rel.none {Wg : Nat} {t u : Trace} {g r : Nat} (h : Rel Wg t g r) (hu : ∀ op ∈ u, op.act.touch? = none) : Rel Wg (t ++ u) g r :=
  h.app fun i op hi hop e a ha => by
    rcases getElem?_append_cases hop with ⟨hlt, _⟩ | ⟨_, hm⟩
    · omega
    · rw [hu op hm] at ha; cases ha
theorem Rel.deaf {Wg : Nat} {t : Trace} {g r : Nat} (h : Rel Wg t g r) (fn : FuncId) (pos : String) (es : Array Event)
    (ht : ∀ j (hj : j < es.size), ∀ a, (MemAct.ofEvent es[j]).touch? = some a → Loc.blk a.loc = some Wg ∧ a.kind = .atomic ∧ deafBehind (Deaf t g) (es.extract 0 j) ≠ 0) : Rel Wg (t ++ MemOp.ofEvents g fn pos es) g r := by
  refine h.app fun i op hi hop hg a ha => ?_
  have hsz : i < t.size + es.size := by
    have := lt_size_of_getElem? hop
    rw [Array.size_append, ofEvents_eq, Array.size_map] at this
    exact this
  have hj : i - t.size < es.size := by omega
  have hat : (t ++ MemOp.ofEvents g fn pos es)[i]? = some { g := g, fn, pos, act := .ofEvent es[i - t.size] } := by
    rw [Array.getElem?_append_right (by omega), ofEvents_eq]
    simp [hj]
  rw [hat] at hop
  cases hop
  obtain ⟨h1, h2, h3⟩ := ht (i - t.size) hj a ha
  refine ⟨h1, h2, fun ⟨g', hg', hdf⟩ => ?_⟩
  have hgg : g' = g := by
    rw [show (t ++ MemOp.ofEvents g fn pos es).g? i = some g by simp [Trace.g?, hat]] at hg'
    exact (Option.some.inj hg').symm
  subst hgg
  have := deaf_inside t g' fn pos es (i - t.size) (by omega)
  rw [show t.size + (i - t.size) = i by omega] at this
  rw [this] at hdf
  exact h3 hdf
structure Acq (Wg : Nat) (t : Trace) (c q : Nat) (ws : Nat → Prop) : Prop where
  act : t.act? q = some (.mark (.acquire ⟨Wg, 0, none⟩))
  by_ : t.g? q = some c
  heard : t.heard q
  all : ∀ g, ws g → ∃ r, Rel Wg t g r ∧ r < q
structure Shut (C : Nat) (t : Trace) (c q p : Nat) : Prop where
  act : t.act? p = some (.close C)
  by_ : t.g? p = some c
  heard : t.heard p
  lt : q < p
  after : ∀ i, p < i → t.g? i = some c → touchAt t i = none
theorem PT.past {L : Lay} {C Wg : Nat} {Shun : Loc → Prop} {B : Nat} {kid ws : Nat → Prop} {who c q p e : Nat} {t : Trace} (h : PT L C Wg Shun B kid who t) (hk : ∀ g, kid g → g = c ∨ ws g) (hac : Acq Wg t c q ws) (hs : Shut C t c q p)
    (he : t.act? e = some (.recvClosed C)) (hg : t.g? e = some 0) (hh : t.heard e) (h0 : Deaf t 0 = 0) : Past (fun l => Shun l ∨ Loc.blk l = some Wg) B t := by
  obtain ⟨z, hz, hzg⟩ := Option.map_eq_some_iff.1 hg
  have epe : HappensBefore t p e := .single (.inr ⟨.closed hs.act he, hs.heard, hh⟩)
  have po : ∀ i j g, i < j → t.g? i = some g → t.g? j = some g → HappensBefore t i j := fun i j g hij h1 h2 => .single (.inl ⟨hij, g, h1, h2⟩)
  have eqp : HappensBefore t q e := (po q p c hs.lt hac.by_ hs.by_).trans epe
  have erq : ∀ g r, ws g → Rel Wg t g r → r < q → HappensBefore t r e := fun g r hw hr hrq => .trans (.single (.inr ⟨.marked hrq (.inr hr.act) hac.act (fun k _ _ => h.norel k), hr.heard, hac.heard⟩)) eqp
  have before : ∀ i g, t.g? i = some g → g ≠ 0 → kid g → HappensBefore t i e ∨ (∀ a, touchAt t i = some a → Loc.blk a.loc = some Wg ∧ a.kind = .atomic ∧ ¬ t.heard i) := by
    intro i g hgi h0 hkd
    rcases hk g hkd with rfl | hw
    · rcases Nat.lt_trichotomy i p with hlt | rfl | hgt
      · exact .inl ((po i p g hlt hgi hs.by_).trans epe)
      · exact .inl epe
      · exact .inr fun a ha => by rw [hs.after i hgt hgi] at ha; cases ha
    · obtain ⟨r, hr, hrq⟩ := hac.all g hw
      rcases Nat.lt_trichotomy i r with hlt | rfl | hgt
      · exact .inl ((po i r g hlt hgi hr.by_).trans (erq g r hw hr hrq))
      · exact .inl (erq g i hw hr hrq)
      · exact .inr fun a ha => hr.after i hgt hgi a ha
  refine ⟨h.clean, fun i a ha hm => ?_, fun i g hgi hne hc => ?_, h0, h.seen⟩
  · obtain ⟨x, hx, _⟩ := touch_of ha
    have hgi : t.g? i = some x.g := by simp [Trace.g?, hx]
    by_cases h0 : x.g = 0
    · have := knows_own hx
      rw [h0] at this
      exact .inl this
    · by_cases hkd : kid x.g
      · rcases before i x.g hgi h0 hkd with hb | hb
        · exact .inl ⟨e, z, hz, hzg, .inr hb⟩
        · obtain ⟨h1, h2, _⟩ := hb a ha
          exact .inr ⟨.inr h1, h2⟩
      · rcases h.old i x.g a hgi h0 hkd ha hm with hb | ⟨h1, h2⟩
        · exact .inl hb
        · exact .inr ⟨.inl h1, h2⟩
  · by_cases hkd : kid g
    · rcases before i g hgi hne hkd with hb | hb
      · exact ⟨e, hg, hb⟩
      · obtain ⟨x, hx, hx2, hx3⟩ := hc
        obtain ⟨_, h2, h3⟩ := hb x hx
        rcases hx3 with h4 | h4
        · exact absurd h2 h4
        · exact absurd h4 h3
    · exact h.over i g hgi hne hkd hc
end Pool
end Go.Proofs.YtdkpbobglogmoaaGreat
namespace Go.Proofs.YtdkpbobglogmoaaGreat
open Go Go.Conc
open Go.ConcN (sumTo upd sumTo_upd upd_ne upd_same)
namespace Ren
theorem Rely.at {Cold : Nat → Prop} {Liv : World → Prop} {O : Nat → Prop} (hL : ∀ w d, Liv w → Liv (w.at d)) (w : World) (d : Nat) : Rely Cold Liv O w (w.at d) := ⟨Nat.le_refl _, fun _ _ => rfl, fun _ _ => rfl, ⟨rfl, rfl⟩, hL w d⟩
structure Bes (P : Program) (Shun : Loc → Prop) (gs : Array Goroutine) (g : Goroutine) (w : World) (t : Trace) : Prop where
  at0 : gs[0]? = some g
  old : ∃ q, Leavers P t gs q
  past : Past Shun w.heap.size t
theorem gt_beside {T : Terms} {Stop : Nat → (Nat → Prop) → Goroutine → World → Prop} {Shun : Loc → Prop} (hM : T.main = true) (hH : T.Hush) (hSay : ∀ b, ¬ T.Say b) (hLat : ∀ w d, T.Liv w → T.Liv (w.at d)) (hst : ∀ d O g w, Stop d O g w → g.status = .running) :
    ∀ {r : Rk} {O : Nat → Prop} {g : Goroutine} {gs : Array Goroutine} {w : World} {sl : Option (Nat × Nat)} {t : Trace} {q : Nat → Nat}, Gk T Stop r 0 O g w → gs[0]? = some g → Leavers T.P t gs q → Past Shun w.heap.size t →
      (∀ l b, Shun l → Loc.blk l = some b → ¬ O b ∧ ¬ T.Cold b ∧ b < w.heap.size) →
      ∃ N gs' g' w' sl' t' O', runNT T.P N (crowd gs w sl) t = (.next (crowd gs' w' sl'), t') ∧ gs'.size = gs.size ∧ Bes T.P Shun gs' g' w' t' ∧ Stop 0 O' g' w' ∧ w.heap.size ≤ w'.heap.size ∧
        (∀ b, O b → O' b) ∧ (∀ b, O' b → O b ∨ (w.heap.size ≤ b ∧ b < w'.heap.size)) ∧ (T.Liv w → T.Liv w') ∧ (∀ b, b < w.heap.size → ¬ O b → w'.heap[b]? = w.heap[b]?) ∧ w'.os = w.os ∧ w'.output = w.output ∧
        (∀ i a b, touchAt t' i = some a → Loc.blk a.loc = some b → touchAt t i = some a ∨ O' b ∨ T.Cold b) ∧ ∀ a, NoRelease a t → NoRelease a t' := by
  intro r
  refine (Rk.acc r).rec (motive := fun r _ => ∀ {O : Nat → Prop} {g : Goroutine} {gs : Array Goroutine} {w : World} {sl : Option (Nat × Nat)} {t : Trace} {q : Nat → Nat}, Gk T Stop r 0 O g w → gs[0]? = some g → Leavers T.P t gs q → Past Shun w.heap.size t →
      (∀ l b, Shun l → Loc.blk l = some b → ¬ O b ∧ ¬ T.Cold b ∧ b < w.heap.size) →
      ∃ N gs' g' w' sl' t' O', runNT T.P N (crowd gs w sl) t = (.next (crowd gs' w' sl'), t') ∧ gs'.size = gs.size ∧ Bes T.P Shun gs' g' w' t' ∧ Stop 0 O' g' w' ∧ w.heap.size ≤ w'.heap.size ∧
        (∀ b, O b → O' b) ∧ (∀ b, O' b → O b ∨ (w.heap.size ≤ b ∧ b < w'.heap.size)) ∧ (T.Liv w → T.Liv w') ∧ (∀ b, b < w.heap.size → ¬ O b → w'.heap[b]? = w.heap[b]?) ∧ w'.os = w.os ∧ w'.output = w.output ∧
        (∀ i a b, touchAt t' i = some a → Loc.blk a.loc = some b → touchAt t i = some a ∨ O' b ∨ T.Cold b) ∧ ∀ a, NoRelease a t → NoRelease a t') ?_
  intro r _ ih O g gs w sl t q hG h0 hL hP hS
  have key : ∀ (m : Nat) {gs : Array Goroutine} {w : World} {sl : Option (Nat × Nat)} {t : Trace} {q : Nat → Nat}, sumTo gs.size q = m → Gk T Stop r 0 O g w → gs[0]? = some g → Leavers T.P t gs q → Past Shun w.heap.size t →
      (∀ l b, Shun l → Loc.blk l = some b → ¬ O b ∧ ¬ T.Cold b ∧ b < w.heap.size) →
      ∃ N gs' g' w' sl' t' O', runNT T.P N (crowd gs w sl) t = (.next (crowd gs' w' sl'), t') ∧ gs'.size = gs.size ∧ Bes T.P Shun gs' g' w' t' ∧ Stop 0 O' g' w' ∧ w.heap.size ≤ w'.heap.size ∧
        (∀ b, O b → O' b) ∧ (∀ b, O' b → O b ∨ (w.heap.size ≤ b ∧ b < w'.heap.size)) ∧ (T.Liv w → T.Liv w') ∧ (∀ b, b < w.heap.size → ¬ O b → w'.heap[b]? = w.heap[b]?) ∧ w'.os = w.os ∧ w'.output = w.output ∧
        (∀ i a b, touchAt t' i = some a → Loc.blk a.loc = some b → touchAt t i = some a ∨ O' b ∨ T.Cold b) ∧ ∀ a, NoRelease a t → NoRelease a t' := by
    intro m
    induction m using Nat.strongRecOn with
    | _ m ihm =>
      intro gs w sl t q hm hG h0 hL hP hS
      have hrun : g.status = .running := by
        cases hG with
        | stop h => exact hst _ _ _ _ (h w (Rely.refl w))
        | step h _ _ => exact h
      have haw : ∀ g ∈ gs, awake g := by
        intro g' hg
        obtain ⟨i, hi, rfl⟩ := Array.mem_iff_getElem.1 hg
        rcases Nat.eq_zero_or_pos i with rfl | hpos
        · have : gs[0] = g := by simpa [Array.getElem?_eq_getElem hi] using h0
          rw [this]; exact awake_of (.inl hrun)
        · exact awake_of ((hL.old i _ hpos (Array.getElem?_eq_getElem hi)).status.elim .inl fun x => .inr (.inr x))
      cases hG with
      | stop hs => exact ⟨0, gs, g, w, sl, t, O, rfl, rfl, ⟨h0, ⟨q, hL⟩, hP⟩, hs w (Rely.refl w), Nat.le_refl _, fun b hb => hb, fun b hb => .inl hb, id, fun _ _ _ => rfl, rfl, rfl, fun i a b h _ => .inl h, fun a h => h⟩
      | @step f d O g w h1 h2 h3 =>
        obtain ⟨i, x, d, sl', hi, hx, hstp⟩ := crowd_pick (P := T.P) (w := w) (sl := sl) haw ⟨0, g, h0, hrun⟩
        have hlt : i < gs.size := (Array.getElem?_eq_some_iff.1 hi).1
        have hlt0 : 0 < gs.size := (Array.getElem?_eq_some_iff.1 h0).1
        rcases Nat.eq_zero_or_pos i with rfl | hpos
        · obtain rfl : x = g := by rw [h0] at hi; exact (Option.some.inj hi).symm
          obtain ⟨g', w', es, e, dd, lv, _, hush⟩ := h2 (w.at d) (Rely.at hLat w d)
          have h4 := h3 (w.at d) g' w' es (Rely.at hLat w d) e
          have hh := hush hH
          rw [deafBehind_still hh] at h4
          have e' : stepG T.P (0 == 0) x (w.at d) = .go g' w' es := by rw [← e, hM]; rfl
          have hrunT := runT_crowd_go (P := T.P) (sl := sl') (i := 0) hi e'
          have hev : ∀ ev ∈ es, EvL Shun w'.heap.size ev := fun ev he => ⟨fun y hy hsy => by
            obtain ⟨b, hb, hc⟩ := (dd.evs ev he).touch y hy
            obtain ⟨s1, s2, s3⟩ := hS y.loc b hsy hb
            rcases hc with (hc | hc) | ⟨hc, _⟩ | ⟨hc, _⟩
            · exact absurd hc s1
            · have := hc.1; exact absurd s3 (Nat.not_lt.2 this)
            · exact absurd hc s2
            · exact absurd hc (hSay b), (hh ev he).1, (hh ev he).2, (dd.evs ev he).low⟩
          have hP' : Past Shun w'.heap.size (t ++ MemOp.ofEvents 0 x.frame.fn x.frame.place es) := (hP.mono dd.size).own hev
          have hsz : ((gs.map (woken T.P x g' w')).setIfInBounds 0 g').size = gs.size := by simp
          obtain ⟨N, gs2, g2, w2, sl2, t2, O2, a1, a2, a3, a4, a5, a6, a7, a8, a9, a10, a11, a12, a13⟩ := ih (f (w.at d)) ⟨w.at d, rfl⟩ (O := With O (w.at d) w') (g := g') (gs := (gs.map (woken T.P x g' w')).setIfInBounds 0 g') (w := w') (sl := sl') (t := t ++ MemOp.ofEvents 0 x.frame.fn x.frame.place es) (q := q) h4 (by simp [hlt0])
            ⟨fun j y hj hy => by
              have hne : 0 ≠ j := by omega
              rw [Array.getElem?_setIfInBounds_ne hne, Array.getElem?_map] at hy
              obtain ⟨z, hz, rfl⟩ := Option.map_eq_some_iff.1 hy
              have hq := hL.old j z hj hz
              rw [woken_quitsD hq, Deaf_other t (by omega) _ (fun op hop => by obtain ⟨e, _, rfl⟩ := Go.Conc.mem_ofEvents hop; rfl)]
              exact hq, fun j hj => by
              rw [Deaf_other t (g' := 0) (by simp at hj; omega) _ (fun op hop => by obtain ⟨e, _, rfl⟩ := Go.Conc.mem_ofEvents hop; rfl)]
              exact hL.above j (by simpa using hj)⟩ hP'
            (fun l b hs hb => by
              obtain ⟨s1, s2, s3⟩ := hS l b hs hb
              exact ⟨fun hw => hw.elim s1 fun hn => Nat.not_lt.2 hn.1 s3, s2, Nat.lt_of_lt_of_le s3 dd.size⟩)
          have hsz' : w.heap.size ≤ w'.heap.size := dd.size
          refine ⟨N + 1, gs2, g2, w2, sl2, t2, O2, by simp only [runNT, hstp, hrunT]; exact a1, a2.trans hsz, a3, a4, Nat.le_trans hsz' a5, fun b hb => a6 b (.inl hb), fun b hb => ?_, fun l => a8 (lv (hLat w d l)), fun b hb hn => ?_, a10.trans dd.rest.2.1, a11.trans dd.rest.2.2, fun i a b hi hb => ?_, fun a hn => a13 a (hn.app fun op hop => ?_)⟩
          · rcases a7 b hb with (h | ⟨h5, h6⟩) | ⟨h5, h6⟩
            · exact .inl h
            · exact .inr ⟨h5, Nat.lt_of_lt_of_le h6 a5⟩
            · exact .inr ⟨Nat.le_trans hsz' h5, h6⟩
          · have hb' : b < (w.at d).heap.size := hb
            rw [a9 b (Nat.lt_of_lt_of_le hb hsz') (fun hw => hw.elim hn fun hx => Nat.not_lt.2 hx.1 hb')]
            exact dd.kept b hb' hn
          · rcases a12 i a b hi hb with h | h | h
            · rcases Pool.touch_cases h with ⟨_, h⟩ | ⟨_, op, hop, _, h⟩
              · exact .inl h
              · obtain ⟨ev, he, rfl⟩ := Go.Conc.mem_ofEvents hop
                obtain ⟨b2, hb2, hc⟩ := (dd.evs ev he).touch a h
                rw [hb] at hb2
                cases hb2
                rcases hc with hc | ⟨hc, _⟩ | ⟨hc, _⟩
                · exact .inr (.inl (a6 b hc))
                · exact .inr (.inr hc)
                · exact absurd hc (hSay b)
            · exact .inr (.inl h)
            · exact .inr (.inr h)
          · obtain ⟨ev, he, rfl⟩ := Go.Conc.mem_ofEvents hop
            exact fun e => (dd.evs ev he).still _ (Go.ConcR.loc_of_ofEvent e)
        · have hq := hL.old i x hpos hi
          have hi0 : (i == 0) = false := by simp; omega
          cases hqi : q i with
          | zero => rw [hqi] at hq; rw [hq.1] at hx; cases hx
          | succ k =>
            rw [hqi] at hq
            rcases hq with ⟨hf, _⟩ | ⟨_, g', es, hmt, hstep, hq'⟩
            · rw [hf] at hx; cases hx
            have hrunT := runT_crowd_go (P := T.P) (sl := sl') (i := i) hi (by rw [hi0]; exact hstep (w.at d))
            have hsz : ((gs.map (woken T.P x g' (w.at d))).setIfInBounds i g').size = gs.size := by simp
            have hsum : sumTo gs.size (upd q i k) + (k + 1) = sumTo gs.size q + k := by
              have := sumTo_upd q k id hlt
              simpa [hqi] using this
            obtain ⟨N, gs2, g2, w2, sl2, t2, O2, a1, a2, a3, a4, a5, a6, a7, a8, a9, a10, a11, a12, a13⟩ := ihm (sumTo gs.size (upd q i k)) (by omega) (gs := (gs.map (woken T.P x g' (w.at d))).setIfInBounds i g') (w := w.at d) (sl := sl') (t := t ++ MemOp.ofEvents i x.frame.fn x.frame.place es) (q := upd q i k) (by rw [hsz]) (Gk.rely (.step h1 h2 h3) (Rely.at hLat w d))
              (by
                have hne : i ≠ 0 := by omega
                rw [Array.getElem?_setIfInBounds_ne hne, Array.getElem?_map, h0]
                simp [woken_run hrun])
              ⟨fun j y hj hy => by
                by_cases hji : i = j
                · subst hji
                  rw [Array.getElem?_setIfInBounds_self_of_lt (by simpa using hlt)] at hy
                  obtain rfl := Option.some.inj hy
                  rw [upd_same, Deaf_own]
                  exact hq'
                · rw [Array.getElem?_setIfInBounds_ne hji, Array.getElem?_map] at hy
                  obtain ⟨z, hz, rfl⟩ := Option.map_eq_some_iff.1 hy
                  have hqj := hL.old j z hj hz
                  rw [woken_quitsD hqj, upd_ne q k (Ne.symm hji), Deaf_other t hji _ (fun op hop => by obtain ⟨e, _, rfl⟩ := Go.Conc.mem_ofEvents hop; rfl)]
                  exact hqj, fun j hj => by
                rw [Deaf_other t (g' := i) (by simp at hj; omega) _ (fun op hop => by obtain ⟨e, _, rfl⟩ := Go.Conc.mem_ofEvents hop; rfl)]
                exact hL.above j (by simpa using hj)⟩
              (hP.mute (by omega) hmt) hS
            refine ⟨N + 1, gs2, g2, w2, sl2, t2, O2, by simp only [runNT, hstp, hrunT]; exact a1, a2.trans hsz, a3, a4, a5, a6, a7, fun l => a8 (hLat w d l), a9, a10, a11, fun i a b hi hb => ?_, fun a hn => a13 a (hn.app fun op hop => ?_)⟩
            · rcases a12 i a b hi hb with h | h | h
              · rcases Pool.touch_cases h with ⟨_, h⟩ | ⟨_, op, hop, _, h⟩
                · exact .inl h
                · obtain ⟨ev, he, rfl⟩ := Go.Conc.mem_ofEvents hop
                  rw [touch_mute (hmt ev he)] at h
                  cases h
              · exact .inr (.inl h)
              · exact .inr (.inr h)
            · obtain ⟨ev, he, rfl⟩ := Go.Conc.mem_ofEvents hop
              intro e
              have := hmt ev he
              obtain ⟨l, x, y⟩ := ev
              have e2 := Go.ConcR.loc_of_ofEvent e
              simp only at e2
              subst e2
              have := hmt _ he
              simp [Event.mute] at this
  exact key _ rfl hG h0 hL hP hS
end Ren
end Go.Proofs.YtdkpbobglogmoaaGreat
namespace Go.Proofs.YtdkpbobglogmoaaGreat
open Go Go.Conc
open Go.ConcN (sumTo upd sumTo_upd upd_ne upd_same)
namespace Ren
structure Known (P : Program) (Shun : Loc → Prop) (gs : Array Goroutine) (w : World) (sl : Option (Nat × Nat)) (t : Trace) (g' : Goroutine) (w' : World) (es : Array Event) (gs' : Array Goroutine) (d : Nat) (t' : Trace) : Prop where
  size : gs'.size = gs.size
  bes : Bes P Shun gs' g' (w'.at d) t'
  touch : ∀ i a, touchAt t' i = some a → touchAt t i = some a ∨ ∃ e ∈ es, (MemAct.ofEvent e).touch? = some a
  rel : ∀ a, NoRelease a t → (∀ e ∈ es, e.loc ≠ .mark (.release a)) → NoRelease a t'
end Ren
end Go.Proofs.YtdkpbobglogmoaaGreat
namespace Go.Proofs.YtdkpbobglogmoaaGreat
open Go Go.Conc
open Go.ConcN (sumTo upd sumTo_upd upd_ne upd_same)
namespace Ren
def SaidIn (E : Event → Prop) (t : Trace) (op : MemOp) : Prop := op ∈ t ∨ (∃ e, E e ∧ op.act = .ofEvent e) ∨ ∃ e : Event, e.mute = true ∧ op.act = .ofEvent e
def SaidAll (E : Event → Prop) (t t' : Trace) : Prop := ∀ op ∈ t', SaidIn E t op
theorem SaidAll.refl {E : Event → Prop} (t : Trace) : SaidAll E t t := fun op h => .inl h
theorem SaidAll.trans {E : Event → Prop} {t t1 t2 : Trace} (h : SaidAll E t t1) (k : SaidAll E t1 t2) : SaidAll E t t2 := fun op ho => by
  rcases k op ho with h1 | h1
  · exact h op h1
  · exact .inr h1
theorem SaidAll.own {E : Event → Prop} {t : Trace} {g : Nat} {fn : FuncId} {pos : String} {es : Array Event} (h : ∀ e ∈ es, E e ∨ e.mute = true) : SaidAll E t (t ++ MemOp.ofEvents g fn pos es) := fun op ho => by
  rcases Array.mem_append.1 ho with h1 | h1
  · exact .inl h1
  · obtain ⟨e, he, rfl⟩ := Go.Conc.mem_ofEvents h1
    rcases h e he with h2 | h2
    · exact .inr (.inl ⟨e, h2, rfl⟩)
    · exact .inr (.inr ⟨e, h2, rfl⟩)
theorem step_any {P : Program} {Shun : Loc → Prop} {B : Nat} {E : Event → Prop} (hE : ∀ e, E e → EvL Shun B e) {g : Goroutine} {w : World} {Q : Goroutine → World → Prop} (hst : g.status = .running) (h : ∀ d, ∃ g' w' es, stepG P true g (w.at d) = .go g' w' es ∧ (∀ e ∈ es, E e) ∧ Q g' w') :
    ∀ (m : Nat) {gs : Array Goroutine} {w0 : World} {sl : Option (Nat × Nat)} {t : Trace} {q : Nat → Nat}, sumTo gs.size q = m → (∃ d0, w0 = w.at d0) → gs[0]? = some g → Leavers P t gs q → Past Shun B t →
      ∃ N gs' sl' t' g' w', runNT P N (crowd gs w0 sl) t = (.next (crowd gs' w' sl'), t') ∧ gs'.size = gs.size ∧ gs'[0]? = some g' ∧ (∃ q, Leavers P t' gs' q) ∧ Past Shun B t' ∧ Q g' w' ∧ SaidAll E t t' := by
  intro m
  induction m using Nat.strongRecOn with
  | _ m ihm =>
    rintro gs w0 sl t q hm ⟨d0, rfl⟩ h0 hL hP
    have haw : ∀ g ∈ gs, awake g := by
      intro g' hg
      obtain ⟨i, hi, rfl⟩ := Array.mem_iff_getElem.1 hg
      rcases Nat.eq_zero_or_pos i with rfl | hpos
      · have : gs[0] = g := by simpa [Array.getElem?_eq_getElem hi] using h0
        rw [this]; exact awake_of (.inl hst)
      · exact awake_of ((hL.old i _ hpos (Array.getElem?_eq_getElem hi)).status.elim .inl fun x => .inr (.inr x))
    obtain ⟨i, x, d, sl', hi, hx, hstp⟩ := crowd_pick (P := P) (w := w.at d0) (sl := sl) haw ⟨0, g, h0, hst⟩
    have hstp : stepT P (crowd gs (w.at d0) sl) = runT P (crowd gs (w.at d) sl') i := hstp
    have hlt : i < gs.size := (Array.getElem?_eq_some_iff.1 hi).1
    have hlt0 : 0 < gs.size := (Array.getElem?_eq_some_iff.1 h0).1
    rcases Nat.eq_zero_or_pos i with rfl | hpos
    · obtain rfl : x = g := by rw [h0] at hi; exact (Option.some.inj hi).symm
      obtain ⟨g', w', es, hgo, hev, hQ⟩ := h d
      have hrunT := runT_crowd_go (P := P) (sl := sl') (i := 0) hi (show stepG P (0 == 0) x (w.at d) = _ from hgo)
      have hP' : Past Shun B (t ++ MemOp.ofEvents 0 x.frame.fn x.frame.place es) := hP.own fun e he => hE e (hev e he)
      refine ⟨1, _, sl', _, g', w', by simp only [runNT, hstp, hrunT]; rfl, by simp, by simp [hlt0], ⟨q, fun j y hj hy => ?_, fun j hj => ?_⟩, hP', hQ, SaidAll.own fun e he => .inl (hev e he)⟩
      · have hne : 0 ≠ j := by omega
        rw [Array.getElem?_setIfInBounds_ne hne, Array.getElem?_map] at hy
        obtain ⟨z, hz, rfl⟩ := Option.map_eq_some_iff.1 hy
        have hq := hL.old j z hj hz
        rw [woken_quitsD hq, Deaf_other t (by omega) _ (fun op hop => by obtain ⟨e, _, rfl⟩ := Go.Conc.mem_ofEvents hop; rfl)]
        exact hq
      · rw [Deaf_other t (g' := 0) (by simp at hj; omega) _ (fun op hop => by obtain ⟨e, _, rfl⟩ := Go.Conc.mem_ofEvents hop; rfl)]
        exact hL.above j (by simpa using hj)
    · have hq := hL.old i x hpos hi
      have hi0 : (i == 0) = false := by simp; omega
      cases hqi : q i with
      | zero => rw [hqi] at hq; rw [hq.1] at hx; cases hx
      | succ k =>
        rw [hqi] at hq
        rcases hq with ⟨hf, _⟩ | ⟨_, g2, es2, hmt, hstep, hq'⟩
        · rw [hf] at hx; cases hx
        have hrunT := runT_crowd_go (P := P) (sl := sl') (i := i) hi (by rw [hi0]; exact hstep (w.at d))
        have hsum : sumTo gs.size (upd q i k) + (k + 1) = sumTo gs.size q + k := by
          have := sumTo_upd q k id hlt
          simpa [hqi] using this
        obtain ⟨N, gs3, sl3, t3, g3, w3, a1, a2, a3, a4, a5, a6, a7⟩ := ihm (sumTo gs.size (upd q i k)) (by omega) (gs := (gs.map (woken P x g2 (w.at d))).setIfInBounds i g2) (w0 := w.at d) (sl := sl') (t := t ++ MemOp.ofEvents i x.frame.fn x.frame.place es2) (q := upd q i k) (by simp) ⟨d, rfl⟩
          (by
            have hne : i ≠ 0 := by omega
            rw [Array.getElem?_setIfInBounds_ne hne, Array.getElem?_map, h0]
            simp [woken_run hst])
          ⟨fun j y hj hy => by
            by_cases hji : i = j
            · subst hji
              rw [Array.getElem?_setIfInBounds_self_of_lt (by simpa using hlt)] at hy
              obtain rfl := Option.some.inj hy
              rw [upd_same, Deaf_own]
              exact hq'
            · rw [Array.getElem?_setIfInBounds_ne hji, Array.getElem?_map] at hy
              obtain ⟨z, hz, rfl⟩ := Option.map_eq_some_iff.1 hy
              have hqj := hL.old j z hj hz
              rw [woken_quitsD hqj, upd_ne q k (Ne.symm hji), Deaf_other t hji _ (fun op hop => by obtain ⟨e, _, rfl⟩ := Go.Conc.mem_ofEvents hop; rfl)]
              exact hqj, fun j hj => by
            rw [Deaf_other t (g' := i) (by simp at hj; omega) _ (fun op hop => by obtain ⟨e, _, rfl⟩ := Go.Conc.mem_ofEvents hop; rfl)]
            exact hL.above j (by simpa using hj)⟩
          (hP.mute (by omega) hmt)
        exact ⟨N + 1, gs3, sl3, t3, g3, w3, by simp only [runNT, hstp, hrunT]; exact a1, a2.trans (by simp), a3, a4, a5, a6, (SaidAll.own fun e he => .inr (hmt e he)).trans a7⟩
theorem walk_said {P : Program} {Shun : Loc → Prop} {B : Nat} {E : Event → Prop} (hE : ∀ e, E e → EvL Shun B e) {Stop : Goroutine → World → Prop} :
    ∀ (n : Nat) {gs : Array Goroutine} {g : Goroutine} {w : World} {sl : Option (Nat × Nat)} {t : Trace}, gs[0]? = some g → (∃ q, Leavers P t gs q) → Past Shun B t → Goes P true Go.Conc.AtRel (DE E) Stop n g w →
      ∃ N gs' sl' t' g' w', runNT P N (crowd gs w sl) t = (.next (crowd gs' w' sl'), t') ∧ gs'.size = gs.size ∧ gs'[0]? = some g' ∧ (∃ q, Leavers P t' gs' q) ∧ Past Shun B t' ∧ Stop g' w' ∧ SaidAll E t t' := by
  intro n
  induction n with
  | zero =>
    intro gs g w sl t h0 hL hP hG
    exact ⟨0, gs, sl, t, g, w, rfl, rfl, h0, hL, hP, hG w (atRel_refl w), .refl t⟩
  | succ n ih =>
    intro gs g w sl t h0 hL hP hG
    rcases hG with hs | ⟨hr, hstep⟩
    · exact ⟨0, gs, sl, t, g, w, rfl, rfl, h0, hL, hP, hs w (atRel_refl w), .refl t⟩
    obtain ⟨q, hL⟩ := hL
    obtain ⟨N, gs1, sl1, t1, g1, w1, e1, e2, e3, e4, e5, e6, e7⟩ := step_any (P := P) (Shun := Shun) hE (w := w) (w0 := w) (sl := sl) (Q := fun g' w' => Goes P true Go.Conc.AtRel (DE E) Stop n g' w') hr (fun d => by
      have := hstep (w.at d) ⟨d, rfl⟩
      cases hgo : stepG P true g (w.at d) with
      | go g' w' es => rw [hgo, goes_go] at this; exact ⟨g', w', es, rfl, this.1, this.2⟩
      | _ => rw [hgo] at this; exact this.elim) _ rfl ⟨w.drawn, rfl⟩ h0 hL hP
    obtain ⟨N2, gs2, sl2, t2, g2, w2, f1, f2, f3, f4, f5, f6, f7⟩ := ih (sl := sl1) e3 e4 e5 e6
    refine ⟨N + N2, gs2, sl2, t2, g2, w2, ?_, f2.trans e2, f3, f4, f5, f6, e7.trans f7⟩
    rw [runNT_add, e1]
    exact f1
end Ren
end Go.Proofs.YtdkpbobglogmoaaGreat
