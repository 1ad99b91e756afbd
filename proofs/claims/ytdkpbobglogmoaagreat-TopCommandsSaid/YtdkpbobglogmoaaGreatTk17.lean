/- Parts of the proof of TopCommandsProof: PoolCl PoolLaw PoolAri2. -/
import Derived.Conc.CrowdComm
import Derived.Test.YtdkpbobglogmoaaGreatTk16
set_option linter.unusedVariables false
set_option linter.unusedSimpArgs false
set_option maxRecDepth 100000
set_option maxHeartbeats 32000000
namespace Go.Proofs.YtdkpbobglogmoaaGreat
open Go Go.Conc
open Go.ConcR (KK wgBlock WgAt stA smA rd wr mk)
open Go.ConcN (sumTo upd sumTo_upd upd_ne upd_same sumTo_congr le_sumTo)
namespace Pool
open Ren (Loc.blk Rely Gt Gk Rk Terms Did EvO New With)
variable {c : Cfg} {Shun : Loc → Prop}
section
variable {S : St} {gs : Array Goroutine} {w : World} {sl : Option (Nat × Nat)} {t : Trace} {g : Goroutine}
theorem actC {w' : World} {s s1 : Stage} {k1 : Rk} {own1 : Nat → Prop} {g' : Goroutine} {es : Array Event} {wtg sm : Nat} {sh : Bool} (h : Inv c Shun S gs w t) (hcl : S.cl = true) (hg : gs[c.b + c.n]? = some g) (hs : S.stg (c.b + c.n) = s) (e : stepG c.P false g w = .go g' w' es)
    (sz : w'.heap.size = w.heap.size) (kb : ∀ b, ¬ c.Sb b → w'.heap[b]? = w.heap[b]?) (rest : w'.os = w.os ∧ w'.output = w.output) (ho : ∀ b, own1 b → S.lay.own (c.b + c.n) b)
    (wg : WgAt c.ty c.Wg w' (S.v * KK + wtg) sm) (ct : w'.heap[c.A]? = w.heap[c.A]?) (ch : ChAt c w' (S.bf.map (·.2)).toArray sh S.s S.r) (L : Laws c)
    (ok : Ok c s1 k1 (deafBehind (Deaf t (c.b + c.n)) es) own1 g' w')
    (hev : ∀ e ∈ es, (∀ x, (MemAct.ofEvent e).touch? = some x → ∃ b, Loc.blk x.loc = some b ∧ c.Sb b ∧ x.kind = .atomic) ∧ (∀ a, e.loc ≠ .mark (.release a)) ∧ (MemAct.ofEvent e).low w.heap.size)
    (hacq : isCL s1 = true → ∃ q, Acq c.Wg (t ++ MemOp.ofEvents (c.b + c.n) g.frame.fn g.frame.place es) (c.b + c.n) q (wsOf c) ∧ (isQ s1 = true → ∃ p, Shut c.C (t ++ MemOp.ofEvents (c.b + c.n) g.frame.fn g.frame.place es) (c.b + c.n) q p))
    (c1 : isC s1 = true) (zs : vC s = 0 ∧ lC s = 0 ∧ xC s = 0 ∧ yC s = 0 ∧ pC s = 0 ∧ ∀ k, kC k s = 0) (z1 : vC s1 = 0 ∧ lC s1 = 0 ∧ xC s1 = 0 ∧ yC s1 = 0 ∧ pC s1 = 0 ∧ ∀ k, kC k s1 = 0)
    (hmode : ∀ x y, ModeP true (cK s) (isW3 s) S.v S.wtg S.sm x y → ModeP true (cK s1) (isW3 s1) S.v wtg sm x y)
    (hsh : sh = true ↔ isQ s1 = true) (hp : sh = true → (∀ i, i < gs.size → pC (S.stg i) = 0) ∧ wks c.P g g' = true)
    (hlt : Lt (mu c { S.to (c.b + c.n) s1 k1 own1 (wks c.P g g') sh with wtg := wtg, sm := sm, shut := sh } gs.size) (mu c S gs.size)) :
    ∃ S' gs' w' ops, runT c.P (crowd gs w sl) (c.b + c.n) = (.next (crowd gs' w' sl), ops) ∧ Inv c Shun S' gs' w' (t ++ ops) ∧ Lt (mu c S' gs'.size) (mu c S gs.size) := by
  have A := h.ari
  have hsz := h.sits.size
  have hb := A.b
  have hj := (A.cs hcl).1
  have hlt' : c.b + c.n < gs.size := (Array.getElem?_eq_some_iff.1 hg).1
  rw [show false = ((c.b + c.n) == 0) by simp; omega] at e
  have kp : Kept (c := c) S (c.b + c.n) w w' := ⟨Nat.le_of_eq sz.symm, fun b _ _ hb => kb b hb, rest, fun _ => ⟨⟨_, _, wg⟩, ⟨_, ct.trans h.hea.ct⟩, _, _, _, _, ch⟩⟩
  have hpc : ∀ i, i < gs.size → pC (S.stg i) = 1 → sh = false := fun i hi hp1 => by
    cases e : sh with
    | false => rfl
    | true => have := (hp e).1 i hi; omega
  refine act h hg e (.inr (by unfold kid; rw [hcl]; simp; omega)) sz kb rest (S' := { S.to (c.b + c.n) s1 k1 own1 (wks c.P g g') sh with wtg := wtg, sm := sm, shut := sh }) (s1 := s1) (k1 := k1) (own1 := own1) rfl rfl rfl rfl rfl rfl rfl ho
    ⟨wg, ct.trans h.hea.ct, ch, fun i n v hi => L.item _ _ _ _ _ (kp.fly h.tra) (h.hea.items i n v hi), h.hea.len, h.hea.room⟩ ?_ hlt ok hpc hev (fun i hi' hj' _ => by omega) (fun _ _ => hacq) (fun _ _ hw => by unfold wsOf at hw; omega)
  refine A.closer hsz hcl hs rfl rfl rfl c1 rfl rfl rfl zs z1 hmode hsh (fun hp0 => ?_) (fun hpk => ?_)
  · show sh = false
    cases e : sh with
    | false => rfl
    | true =>
      exfalso
      have z := (hp e).1
      have : (sumTo gs.size fun i => pC (S.stg i)) ≤ sumTo gs.size fun _ => 0 := sum_le fun i hi => Nat.le_of_eq (z i hi)
      have z0 : ∀ m, (sumTo m fun _ => 0) = 0 := fun m => by induction m with
        | zero => rfl
        | succ m ih => simp only [sumTo, ih]
      have := z0 gs.size
      omega
  · show sh = false
    cases e : sh with
    | false => rfl
    | true =>
      exfalso
      rw [e, (hp e).2] at hpk
      revert hpk
      cases S.stg 0 <;> simp [wake, isPk]
theorem ltC {s s1 : Stage} {k1 : Rk} {own1 : Nat → Prop} {wk sh : Bool} {wtg sm : Nat} (h : Inv c Shun S gs w t) (hcl : S.cl = true) (hg : c.b + c.n < gs.size) (hs : S.stg (c.b + c.n) = s) (hw : wgt s1 + stale S.v s1 + (if sh = true ∧ isPk (S.stg 0) = true then 1 else 0) < wgt s + stale S.v s) :
    Lt (mu c { S.to (c.b + c.n) s1 k1 own1 wk sh with wtg := wtg, sm := sm, shut := sh } gs.size) (mu c S gs.size) := by
  refine Lt.phi ?_
  unfold Phi
  have hne : (0 : Nat) ≠ c.b + c.n := by have := h.ari.b; omega
  have e1 : (sumTo gs.size fun i => wgt (nxt S.stg (c.b + c.n) s1 wk sh i)) + wgt s ≤ (sumTo gs.size fun i => wgt (S.stg i)) + wgt s1 + (if sh = true ∧ isPk (S.stg 0) = true then 1 else 0) := by
    by_cases hc : sh = true ∧ isPk (S.stg 0) = true
    · rw [if_pos hc]
      have h0 : 0 < gs.size := by omega
      have key : (sumTo gs.size fun i => wgt (nxt S.stg (c.b + c.n) s1 wk sh i)) ≤ sumTo gs.size fun i => wgt (upd (upd S.stg (c.b + c.n) s1) 0 (.rv []) i) := sum_le fun i hi => by
        unfold nxt upd
        by_cases e0 : i = 0
        · subst e0
          rw [if_neg hne, if_pos rfl]
          have := wgt_wake_le wk sh (S.stg 0)
          rw [hc.2] at this
          have hp := hc.2
          revert hp this
          cases S.stg 0 <;> simp [isPk, wgt]
        · rw [if_neg e0]
          split
          · exact Nat.le_refl _
          · refine Nat.le_of_eq (wgt_wake _ _ _ fun hp => ?_)
            exact absurd (h.pks i hi hp) e0
      have u1 := sumTo_upd (j := gs.size) (upd S.stg (c.b + c.n) s1) (.rv []) wgt h0
      have u2 := sumTo_upd (j := gs.size) S.stg s1 wgt hg
      rw [upd_ne _ _ hne] at u1
      rw [hs] at u2
      have p1 : wgt (S.stg 0) = 1 := by
        have hp := hc.2
        revert hp
        cases S.stg 0 <;> simp [isPk, wgt]
      have p2 : wgt (.rv []) = 2 := rfl
      omega
    · rw [if_neg hc]
      have := sum_wgt (stg := S.stg) (m := gs.size) s1 wk sh hg (fun i hi hp hne => by
        have := h.pks i hi hp
        subst this
        cases e : sh with
        | false => rfl
        | true => exact absurd ⟨e, hp⟩ hc)
      rw [hs] at this
      omega
  have e2 : stale S.v (nxt S.stg (c.b + c.n) s1 wk sh (c.b + c.n)) = stale S.v s1 := by rw [nxt_self]
  show 4 * (c.N - S.nx) + S.bf.length + (sumTo gs.size fun i => wgt (nxt S.stg (c.b + c.n) s1 wk sh i)) + (if S.cl then stale S.v (nxt S.stg (c.b + c.n) s1 wk sh (c.b + c.n)) else 0) < 4 * (c.N - S.nx) + S.bf.length + (sumTo gs.size fun i => wgt (S.stg i)) + (if S.cl then stale S.v (S.stg (c.b + c.n)) else 0)
  rw [e2, hs, hcl]
  simp only [if_true]
  omega
theorem noShut {S : St} (A : Ari c S gs.size) (hcl : S.cl = true) (h : isQ (S.stg (c.b + c.n)) = false) : S.shut = false := by
  cases e : S.shut with
  | false => rfl
  | true => have := (A.shut.1 e).2; rw [h] at this; cases this
theorem w1 (L : Laws c) (h : Inv c Shun S gs w t) (hcl : S.cl = true) (hg : gs[c.b + c.n]? = some g) (hs : S.stg (c.b + c.n) = .W1) (hA : AtW1 c (Deaf t (c.b + c.n)) (S.lay.own (c.b + c.n)) g w) :
    ∃ S' gs' w' ops, runT c.P (crowd gs w sl) (c.b + c.n) = (.next (crowd gs' w' sl), ops) ∧ Inv c Shun S' gs' w' (t ++ ops) ∧ Lt (mu c S' gs'.size) (mu c S gs.size) := by
  have A := h.ari
  have hlt : c.b + c.n < gs.size := (Array.getElem?_eq_some_iff.1 hg).1
  obtain ⟨h1, h2, h3⟩ := hA
  have hm := A.mode
  rw [hs, hcl] at hm
  have hws : S.wtg = 0 ∧ S.sm = 0 := by
    unfold ModeP at hm
    simp only [cK] at hm
    omega
  have hwg : WgAt c.ty c.Wg w (S.v * KK) 0 := by have := h.hea.wg; rw [hws.1, hws.2] at this; simpa using this
  obtain ⟨g', e, k0, k1⟩ := h3 S.v (by have := A.vn; have := L.n2; omega) hwg
  have hdf : deafBehind (Deaf t (c.b + c.n)) #[rd (stA c.Wg)] = 1 := by rw [h2]; rfl
  have hev : ∀ e ∈ #[rd (stA c.Wg)], OnWg c.Wg e := fun e he => by
    simp at he
    subst he
    exact on_rd _
  have nsh := noShut A hcl (by rw [hs]; rfl)
  by_cases hv : S.v = 0
  · obtain ⟨k, hk⟩ := (k0 hv).rank
    refine actC h hcl hg hs e rfl (fun b hb => rfl) ⟨rfl, rfl⟩ (s1 := .AQ) (k1 := k) (own1 := None) (sh := false) (fun b hb => hb.elim) (wtg := S.wtg) (sm := S.sm) h.hea.wg rfl (by have := h.hea.ch; rw [nsh] at this; exact this) L (by rw [hdf]; exact hk)
      (fun ev he => onWg_ok h.tra (hev ev he)) (fun o => by cases o) rfl ⟨rfl, rfl, rfl, rfl, rfl, fun _ => rfl⟩ ⟨rfl, rfl, rfl, rfl, rfl, fun _ => rfl⟩ (fun x y hm => ?_) (by simp [isQ]) (fun e => by cases e) (ltC h hcl hlt hs (by simp [wgt, stale]))
    unfold ModeP at hm ⊢
    rcases hm with ⟨_, a1, a2, a3, a4⟩ | ⟨_, a, _⟩ | ⟨_, a, _⟩
    · exact .inr (.inr ⟨rfl, rfl, hv, a1, a2, a3, a4⟩)
    · cases a
    · cases a
  · obtain ⟨k, hk⟩ := (k1 hv).rank
    refine actC h hcl hg hs e rfl (fun b hb => rfl) ⟨rfl, rfl⟩ (s1 := .W2 S.v) (k1 := k) (own1 := None) (sh := false) (fun b hb => hb.elim) (wtg := S.wtg) (sm := S.sm) h.hea.wg rfl (by have := h.hea.ch; rw [nsh] at this; exact this) L (by rw [hdf]; exact ⟨hk, by omega⟩)
      (fun ev he => onWg_ok h.tra (hev ev he)) (fun o => by cases o) rfl ⟨rfl, rfl, rfl, rfl, rfl, fun _ => rfl⟩ ⟨rfl, rfl, rfl, rfl, rfl, fun _ => rfl⟩ (fun x y hm => ?_) (by simp [isQ]) (fun e => by cases e) (ltC h hcl hlt hs (by simp [wgt, stale]))
    unfold ModeP at hm ⊢
    rcases hm with ⟨_, a⟩ | ⟨_, a, _⟩ | ⟨_, a, _⟩
    · exact .inl ⟨.inr rfl, a⟩
    · cases a
    · cases a
theorem w2 {vs : Nat} (L : Laws c) (h : Inv c Shun S gs w t) (hcl : S.cl = true) (hg : gs[c.b + c.n]? = some g) (hs : S.stg (c.b + c.n) = .W2 vs) (hv1 : 1 ≤ vs) (hA : AtW2 c vs (Deaf t (c.b + c.n)) (S.lay.own (c.b + c.n)) g w) :
    ∃ S' gs' w' ops, runT c.P (crowd gs w sl) (c.b + c.n) = (.next (crowd gs' w' sl), ops) ∧ Inv c Shun S' gs' w' (t ++ ops) ∧ Lt (mu c S' gs'.size) (mu c S gs.size) := by
  have A := h.ari
  have hlt : c.b + c.n < gs.size := (Array.getElem?_eq_some_iff.1 hg).1
  obtain ⟨h1, h2, h3⟩ := hA
  have hm := A.mode
  rw [hs, hcl] at hm
  have hws : S.wtg = 0 ∧ S.sm = 0 := by
    unfold ModeP at hm
    simp only [cK] at hm
    omega
  have hwg : WgAt c.ty c.Wg w (S.v * KK) 0 := by have := h.hea.wg; rw [hws.1, hws.2] at this; simpa using this
  obtain ⟨k0, k1⟩ := h3 S.v (by have := A.vn; have := L.n2; omega) hwg
  obtain ⟨n1, n2, n3⟩ := h.hea.ne
  have nsh := noShut A hcl (by rw [hs]; rfl)
  by_cases hv : S.v = vs
  · obtain ⟨g', e, k⟩ := k0 hv
    obtain ⟨k, hk⟩ := k.rank
    have hdf : deafBehind (Deaf t (c.b + c.n)) #[rd (stA c.Wg), wr (stA c.Wg)] = 1 := by rw [h2]; rfl
    have hev : ∀ e ∈ #[rd (stA c.Wg), wr (stA c.Wg)], OnWg c.Wg e := fun e he => by
      simp at he
      rcases he with rfl | rfl
      · exact on_rd _
      · exact on_wr _
    refine actC h hcl hg hs e (setCell_size _ _ _) setWg_kb ⟨rfl, rfl⟩ (s1 := .W3) (k1 := k) (own1 := None) (sh := false) (fun b hb => hb.elim) (wtg := 1) (sm := 0) (WgAt.st hwg) (setCell_ne _ _ _ n1.symm) (by have := (setCell_ne w (stA c.Wg) (.int .u64 (S.v * KK + 1)) n2.symm).trans h.hea.ch; rw [nsh] at this; exact this) L (by rw [hdf]; exact hk)
      (fun ev he => onWg_ok h.tra (hev ev he)) (fun o => by cases o) rfl ⟨rfl, rfl, rfl, rfl, rfl, fun _ => rfl⟩ ⟨rfl, rfl, rfl, rfl, rfl, fun _ => rfl⟩ (fun x y hm => ?_) (by simp [isQ]) (fun e => by cases e) (ltC h hcl hlt hs (by simp [wgt, stale]; omega))
    unfold ModeP at hm ⊢
    rcases hm with ⟨_, a1, a2, a3, a4⟩ | ⟨_, a, _⟩ | ⟨_, a, _⟩
    · exact .inr (.inl ⟨rfl, rfl, .inl ⟨by omega, rfl, rfl, a3, a4⟩⟩)
    · cases a
    · cases a
  · obtain ⟨g', e, k⟩ := k1 hv
    obtain ⟨k, hk⟩ := (L.anc _ _ k).rank
    have hdf : deafBehind (Deaf t (c.b + c.n)) #[rd (stA c.Wg)] = 1 := by rw [h2]; rfl
    have hev : ∀ e ∈ #[rd (stA c.Wg)], OnWg c.Wg e := fun e he => by
      simp at he
      subst he
      exact on_rd _
    refine actC h hcl hg hs e rfl (fun b hb => rfl) ⟨rfl, rfl⟩ (s1 := .W1) (k1 := k) (own1 := None) (sh := false) (fun b hb => hb.elim) (wtg := S.wtg) (sm := S.sm) h.hea.wg rfl (by have := h.hea.ch; rw [nsh] at this; exact this) L (by rw [hdf]; exact hk)
      (fun ev he => onWg_ok h.tra (hev ev he)) (fun o => by cases o) rfl ⟨rfl, rfl, rfl, rfl, rfl, fun _ => rfl⟩ ⟨rfl, rfl, rfl, rfl, rfl, fun _ => rfl⟩ (fun x y hm => ?_) (by simp [isQ]) (fun e => by cases e)
      (ltC h hcl hlt hs (by simp only [wgt, stale]; rw [if_neg (fun x => (by cases x.1)), if_neg (fun e => hv e.symm)]; omega))
    unfold ModeP at hm ⊢
    rcases hm with ⟨_, a⟩ | ⟨_, a, _⟩ | ⟨_, a, _⟩
    · exact .inl ⟨.inr rfl, a⟩
    · cases a
    · cases a
theorem w3 (L : Laws c) (h : Inv c Shun S gs w t) (hcl : S.cl = true) (hg : gs[c.b + c.n]? = some g) (hs : S.stg (c.b + c.n) = .W3) (hk0 : S.rk (c.b + c.n) = .leaf) (hA0 : ∀ w1, Rely c.Cold c.Liv (S.lay.own (c.b + c.n)) w w1 → AtW3 c (Deaf t (c.b + c.n)) (S.lay.own (c.b + c.n)) g w1) :
    ∃ S' gs' w' ops, runT c.P (crowd gs w sl) (c.b + c.n) = (.next (crowd gs' w' sl), ops) ∧ Inv c Shun S' gs' w' (t ++ ops) ∧ Lt (mu c S' gs'.size) (mu c S gs.size) := by
  have A := h.ari
  have hlt : c.b + c.n < gs.size := (Array.getElem?_eq_some_iff.1 hg).1
  obtain ⟨h1, h2, ho, h3, h4⟩ := hA0 w (Rely.refl w)
  have hm := A.mode
  rw [hs, hcl] at hm
  obtain ⟨n1, n2, n3⟩ := h.hea.ne
  have nsh := noShut A hcl (by rw [hs]; rfl)
  by_cases hsm : S.sm = 0
  · have e := h3 ⟨_, by have := h.hea.wg; rw [hsm] at this; exact this⟩
    refine actC h hcl hg hs e rfl (fun b hb => rfl) ⟨rfl, rfl⟩ (s1 := .B3) (k1 := .leaf) (own1 := S.lay.own (c.b + c.n)) (sh := false) (fun b hb => hb) (wtg := S.wtg) (sm := S.sm) h.hea.wg rfl (by have := h.hea.ch; rw [nsh] at this; exact this) L ⟨rfl, g, hA0, rfl⟩
      (fun ev he => by simp at he) (fun o => by cases o) rfl ⟨rfl, rfl, rfl, rfl, rfl, fun _ => rfl⟩ ⟨rfl, rfl, rfl, rfl, rfl, fun _ => rfl⟩ (fun x y hm => ?_) (by simp [isQ]) (fun e => by cases e) ?_
    · unfold ModeP at hm ⊢
      rcases hm with ⟨a, _⟩ | ⟨_, _, b | ⟨b, b1 | b1 | ⟨_, _, _, b1, _⟩⟩⟩ | ⟨_, a, _⟩
      · rcases a with a | a <;> cases a
      · exact .inr (.inl ⟨rfl, rfl, .inl b⟩)
      · exact .inr (.inl ⟨rfl, rfl, .inr ⟨b, .inl b1⟩⟩)
      · exact .inr (.inl ⟨rfl, rfl, .inr ⟨b, .inr (.inl b1)⟩⟩)
      · omega
      · cases a
    · have hne : (0 : Nat) ≠ c.b + c.n := by have := A.b; omega
      refine Lt.flag ?_ ?_ ?_ (by rw [hs, hcl]; rfl)
      · unfold Phi
        have := sum_wgt (stg := S.stg) (m := gs.size) .B3 (wks c.P g { g with status := .blocked }) false hlt (fun i hi hp hne => rfl)
        rw [hs] at this
        have e2 : stale S.v (nxt S.stg (c.b + c.n) .B3 (wks c.P g { g with status := .blocked }) false (c.b + c.n)) = 0 := by rw [nxt_self]; rfl
        have e3 : stale S.v (S.stg (c.b + c.n)) = 0 := by rw [hs]; rfl
        show 4 * (c.N - S.nx) + S.bf.length + (sumTo gs.size fun i => wgt (nxt S.stg (c.b + c.n) .B3 (wks c.P g { g with status := .blocked }) false i)) + (if S.cl then stale S.v (nxt S.stg (c.b + c.n) .B3 (wks c.P g { g with status := .blocked }) false (c.b + c.n)) else 0) = 4 * (c.N - S.nx) + S.bf.length + (sumTo gs.size fun i => wgt (S.stg i)) + (if S.cl then stale S.v (S.stg (c.b + c.n)) else 0)
        rw [e2, e3]
        simp only [wgt] at this
        have e4 : (if S.cl = true then 0 else 0) = 0 := by split <;> rfl
        simp only [wgt]
        omega
      · show ranks gs.size (upd S.rk (c.b + c.n) .leaf) = ranks gs.size S.rk
        refine ranks_congr fun i _ => ?_
        by_cases ei : i = c.b + c.n
        · subst ei; rw [upd_same, hk0]
        · rw [upd_ne _ _ ei]
      · show (S.cl && isW3 (nxt S.stg (c.b + c.n) .B3 _ false (c.b + c.n))) = false
        rw [nxt_self]
        simp [isW3]
  · have hws : S.wtg = 0 ∧ S.sm = 1 ∧ S.v = 0 := by
      unfold ModeP at hm
      rcases hm with ⟨_, _, b, _⟩ | ⟨_, _, ⟨_, _, b, _⟩ | ⟨b, ⟨_, _, _, b1⟩ | ⟨_, _, _, b1⟩ | ⟨c1, _, _, b1, _⟩⟩⟩ | ⟨_, _, _, _, b, _⟩
      · omega
      · omega
      · omega
      · omega
      · exact ⟨c1, b1, b⟩
      · omega
    have hwg : WgAt c.ty c.Wg w 0 1 := by have := h.hea.wg; rw [hws.1, hws.2.1, hws.2.2] at this; simpa using this
    obtain ⟨g', e, k⟩ := h4 hwg
    obtain ⟨k, hk⟩ := k.rank
    have hdf : deafBehind (Deaf t (c.b + c.n)) (semEvents (smA c.Wg)) = 1 := by rw [h2]; rfl
    refine actC h hcl hg hs e (setCell_size _ _ _) setWg_kb ⟨rfl, rfl⟩ (s1 := .W4) (k1 := k) (own1 := None) (sh := false) (fun b hb => hb.elim) (wtg := 0) (sm := 0) (by have := WgAt.sem hwg (sm' := 0); rw [hws.2.2]; simpa using this) (setCell_ne _ _ _ n1.symm) (by have := (setCell_ne w (smA c.Wg) (.int .u32 0) n2.symm).trans h.hea.ch; rw [nsh] at this; exact this) L (by rw [hdf]; exact hk)
      (fun ev he => onWg_ok h.tra (on_sem c.Wg ev he)) (fun o => by cases o) rfl ⟨rfl, rfl, rfl, rfl, rfl, fun _ => rfl⟩ ⟨rfl, rfl, rfl, rfl, rfl, fun _ => rfl⟩ (fun x y hm => ?_) (by simp [isQ]) (fun e => by cases e) (ltC h hcl hlt hs (by simp [wgt, stale]))
    unfold ModeP at hm ⊢
    rcases hm with ⟨_, _, b, _⟩ | ⟨_, _, ⟨_, _, b, _⟩ | ⟨b, ⟨_, _, _, b1⟩ | ⟨_, _, _, b1⟩ | ⟨c1, c2, c3, b1, _⟩⟩⟩ | ⟨_, _, _, _, b, _⟩
    · omega
    · omega
    · omega
    · omega
    · exact .inr (.inr ⟨rfl, rfl, b, rfl, rfl, c2, c3⟩)
    · omega
theorem w4 (L : Laws c) (h : Inv c Shun S gs w t) (hcl : S.cl = true) (hg : gs[c.b + c.n]? = some g) (hs : S.stg (c.b + c.n) = .W4) (hA : AtW4 c (Deaf t (c.b + c.n)) (S.lay.own (c.b + c.n)) g w) :
    ∃ S' gs' w' ops, runT c.P (crowd gs w sl) (c.b + c.n) = (.next (crowd gs' w' sl), ops) ∧ Inv c Shun S' gs' w' (t ++ ops) ∧ Lt (mu c S' gs'.size) (mu c S gs.size) := by
  have A := h.ari
  have hlt : c.b + c.n < gs.size := (Array.getElem?_eq_some_iff.1 hg).1
  obtain ⟨h1, h2, h3⟩ := hA
  have hm := A.mode
  rw [hs, hcl] at hm
  have hws : S.wtg = 0 ∧ S.sm = 0 ∧ S.v = 0 := by
    unfold ModeP at hm
    simp only [cK] at hm
    rcases hm with ⟨a, _⟩ | ⟨_, a, _⟩ | ⟨_, _, a, b, d, _⟩
    · rcases a with a | a <;> cases a
    · cases a
    · exact ⟨b, d, a⟩
  have hwg : WgAt c.ty c.Wg w 0 0 := by have := h.hea.wg; rw [hws.1, hws.2.1, hws.2.2] at this; simpa using this
  obtain ⟨g', e, k⟩ := h3 hwg
  obtain ⟨k, hk⟩ := k.rank
  have hdf : deafBehind (Deaf t (c.b + c.n)) #[rd (stA c.Wg)] = 1 := by rw [h2]; rfl
  have hev : ∀ e ∈ #[rd (stA c.Wg)], OnWg c.Wg e := fun e he => by
    simp at he
    subst he
    exact on_rd _
  have nsh := noShut A hcl (by rw [hs]; rfl)
  exact actC h hcl hg hs e rfl (fun b hb => rfl) ⟨rfl, rfl⟩ (s1 := .AQ) (k1 := k) (own1 := None) (sh := false) (fun b hb => hb.elim) (wtg := S.wtg) (sm := S.sm) h.hea.wg rfl (by have := h.hea.ch; rw [nsh] at this; exact this) L (by rw [hdf]; exact hk)
    (fun ev he => onWg_ok h.tra (hev ev he)) (fun o => by cases o) rfl ⟨rfl, rfl, rfl, rfl, rfl, fun _ => rfl⟩ ⟨rfl, rfl, rfl, rfl, rfl, fun _ => rfl⟩ (fun x y hm => hm) (by simp [isQ]) (fun e => by cases e) (ltC h hcl hlt hs (by simp [wgt, stale]))
theorem Inv.allOut (h : Inv c Shun S gs w t) (hcl : S.cl = true) (hk : cK (S.stg (c.b + c.n)) = 2) : ∀ i, i < c.n → out (S.stg (c.b + i)) = true ∧ pC (S.stg (c.b + i)) = 0 := by
  intro i hi
  have A := h.ari
  have hj := (A.cs hcl).1
  have hsz := h.sits.size
  have hm := A.mode
  rw [hcl, hk] at hm
  unfold ModeP at hm
  simp at hm
  have hlt : c.b + i < gs.size := by rw [hsz]; omega
  have b1 : vC (S.stg (c.b + i)) ≤ sumTo gs.size fun i => vC (S.stg i) := le_sumTo (f := fun i => vC (S.stg i)) hlt
  have hv := A.v
  have : vC (S.stg (c.b + i)) = 0 := by omega
  have hw := A.wk i (by omega)
  revert this hw
  cases S.stg (c.b + i) <;> simp [vC, isW, out, pC]
theorem aq (L : Laws c) (h : Inv c Shun S gs w t) (hcl : S.cl = true) (hg : gs[c.b + c.n]? = some g) (hs : S.stg (c.b + c.n) = .AQ) (hA : AtAcq c (Deaf t (c.b + c.n)) (S.lay.own (c.b + c.n)) g w) :
    ∃ S' gs' w' ops, runT c.P (crowd gs w sl) (c.b + c.n) = (.next (crowd gs' w' sl), ops) ∧ Inv c Shun S' gs' w' (t ++ ops) ∧ Lt (mu c S' gs'.size) (mu c S gs.size) := by
  have A := h.ari
  have hlt : c.b + c.n < gs.size := (Array.getElem?_eq_some_iff.1 hg).1
  obtain ⟨h1, h2, g', e, k⟩ := hA
  obtain ⟨k, hk⟩ := k.rank
  have hdf : deafBehind (Deaf t (c.b + c.n)) #[mk (.acquire (stA c.Wg))] = 0 := by rw [h2]; rfl
  have nsh := noShut A hcl (by rw [hs]; rfl)
  have hall := h.allOut hcl (by rw [hs]; rfl)
  have hj := (A.cs hcl).1
  have hat : (t ++ MemOp.ofEvents (c.b + c.n) g.frame.fn g.frame.place #[mk (.acquire (stA c.Wg))])[t.size]? = some { g := c.b + c.n, fn := g.frame.fn, pos := g.frame.place, act := .mark (.acquire (stA c.Wg)) } := by
    rw [Array.getElem?_append_right (Nat.le_refl _), Nat.sub_self]; simp [ofEvents_eq, mk, MemAct.ofEvent]
  have hu : ∀ op ∈ MemOp.ofEvents (c.b + c.n) g.frame.fn g.frame.place #[mk (.acquire (stA c.Wg))], op.g = c.b + c.n := fun op hop => by obtain ⟨e, _, rfl⟩ := Go.Conc.mem_ofEvents hop; rfl
  refine actC h hcl hg hs e rfl (fun b hb => rfl) ⟨rfl, rfl⟩ (s1 := .CL) (k1 := k) (own1 := None) (sh := false) (fun b hb => hb.elim) (wtg := S.wtg) (sm := S.sm) h.hea.wg rfl (by have := h.hea.ch; rw [nsh] at this; exact this) L (by rw [hdf]; exact hk)
    (fun ev he => onWg_ok h.tra (by simp at he; subst he; exact .inr (.inr ⟨_, rfl, .inr rfl⟩))) (fun _ => ?_) rfl ⟨rfl, rfl, rfl, rfl, rfl, fun _ => rfl⟩ ⟨rfl, rfl, rfl, rfl, rfl, fun _ => rfl⟩ (fun x y hm => hm) (by simp [isQ]) (fun e => by cases e) (ltC h hcl hlt hs (by simp [wgt, stale]))
  refine ⟨t.size, ⟨act?_of hat, by simp [Trace.g?, hat], ⟨c.b + c.n, by simp [Trace.g?, hat], ?_⟩, fun x hx => ?_⟩, fun e => by cases e⟩
  · rw [deaf_old (Nat.le_refl _)]; exact h2
  · obtain ⟨i, rfl⟩ : ∃ i, x = c.b + i := ⟨x - c.b, by unfold wsOf at hx; omega⟩
    have hi : i < c.n := by unfold wsOf at hx; omega
    obtain ⟨r, hr⟩ := h.tra.rel i (by omega) (hall i hi).1
    exact ⟨r, hr.other hu (by omega), lt_of_act? hr.act⟩
theorem cl (L : Laws c) (h : Inv c Shun S gs w t) (hcl : S.cl = true) (hg : gs[c.b + c.n]? = some g) (hs : S.stg (c.b + c.n) = .CL) (hA : AtClose c (Deaf t (c.b + c.n)) (S.lay.own (c.b + c.n)) g w) :
    ∃ S' gs' w' ops, runT c.P (crowd gs w sl) (c.b + c.n) = (.next (crowd gs' w' sl), ops) ∧ Inv c Shun S' gs' w' (t ++ ops) ∧ Lt (mu c S' gs'.size) (mu c S gs.size) := by
  have A := h.ari
  have hlt : c.b + c.n < gs.size := (Array.getElem?_eq_some_iff.1 hg).1
  obtain ⟨h1, h2, hmw, h3⟩ := hA
  have nsh := noShut A hcl (by rw [hs]; rfl)
  have hch := h.hea.ch
  rw [nsh] at hch
  obtain ⟨g', q, e, hq⟩ := h3 _ _ _ hch
  have hdf : deafBehind (Deaf t (c.b + c.n)) #[⟨.obj c.C, false, true⟩, ⟨.obj c.C, true, true⟩] = 0 := by rw [h2]; rfl
  have hall := h.allOut hcl (by rw [hs]; rfl)
  have hj := (A.cs hcl).1
  have hsz := h.sits.size
  obtain ⟨n1, n2, n3⟩ := h.hea.ne
  have hwk : wks c.P g g' = true := by
    unfold wks
    rw [hmw]
    rcases hq.status with e | e <;> rw [e] <;> rfl
  have hC := h.tra.sbLt c.C (.inr (.inr rfl))
  have hat0 : (t ++ MemOp.ofEvents (c.b + c.n) g.frame.fn g.frame.place #[⟨.obj c.C, false, true⟩, ⟨.obj c.C, true, true⟩])[t.size + 1]? = some { g := c.b + c.n, fn := g.frame.fn, pos := g.frame.place, act := .close c.C } := by
    rw [Array.getElem?_append_right (by omega), show t.size + 1 - t.size = 1 by omega]; simp [ofEvents_eq, MemAct.ofEvent]
  have hu : ∀ op ∈ MemOp.ofEvents (c.b + c.n) g.frame.fn g.frame.place #[⟨.obj c.C, false, true⟩, ⟨.obj c.C, true, true⟩], op.g = c.b + c.n := fun op hop => by obtain ⟨e, _, rfl⟩ := Go.Conc.mem_ofEvents hop; rfl
  have ne : ∀ b, b ≠ c.C → (w.setChan c.C c.n (S.bf.map (·.2)).toArray true S.s S.r false).heap[b]? = w.heap[b]? := fun b hb => by
    show (w.heap.setIfInBounds c.C _)[b]? = _
    rw [Array.getElem?_setIfInBounds_ne (fun e => hb e.symm)]
  have zero : ∀ i, i < gs.size → pC (S.stg i) = 0 := fun i hi => by
    rcases Nat.lt_or_ge i c.b with h5 | h5
    · rcases Nat.eq_zero_or_pos i with rfl | h6
      · have := A.m0; revert this; cases S.stg 0 <;> simp [isM, pC]
      · have := A.old i h6 h5; revert this; cases S.stg i <;> simp [isQ, pC]
    · rcases Nat.lt_or_ge i (c.b + c.n) with h6 | h6
      · have := (hall (i - c.b) (by omega)).2
        rwa [show c.b + (i - c.b) = i by omega] at this
      · have : i = c.b + c.n := by rw [hsz, hcl, hj] at hi; simp at hi; omega
        rw [this, hs]; rfl
  refine actC h hcl hg hs e (by simp [World.setChan]) (fun b hb => ne b fun e => hb (.inr (.inr e))) ⟨rfl, rfl⟩ (s1 := .Q) (k1 := chain q) (own1 := None) (sh := true) (fun b hb => hb.elim) (wtg := S.wtg) (sm := S.sm) ((ne _ n2).trans h.hea.wg) (ne _ n3) ?_ L (by rw [hdf]; exact ⟨q, rfl, hq⟩)
    (fun ev he => ?_) (fun _ => ?_) rfl ⟨rfl, rfl, rfl, rfl, rfl, fun _ => rfl⟩ ⟨rfl, rfl, rfl, rfl, rfl, fun _ => rfl⟩ (fun x y hm => hm) (by simp [isQ]) (fun _ => ⟨zero, hwk⟩) (ltC h hcl hlt hs (by simp only [wgt, stale]; split <;> omega))
  · show (w.heap.setIfInBounds c.C _)[c.C]? = _
    rw [Array.getElem?_setIfInBounds_self_of_lt hC]
  · simp only [List.mem_toArray, List.mem_cons, List.not_mem_nil, or_false] at he
    rcases he with rfl | rfl
    · refine ⟨fun x hx => ?_, fun a e => (by cases e), hC⟩
      simp only [MemAct.ofEvent, MemAct.touch?, Option.some.injEq] at hx
      subst hx
      exact ⟨c.C, rfl, .inr (.inr rfl), rfl⟩
    · exact ⟨fun x hx => (by cases hx), fun a e => (by cases e), hC⟩
  · obtain ⟨q0, hA, _⟩ := h.tra.acq hcl (by rw [hs]; rfl)
    have hq0 := lt_of_act? hA.act
    refine ⟨q0, ⟨?_, g?_app hA.by_, (heard_old hq0).2 hA.heard, fun x hx => ?_⟩, fun _ => ⟨t.size + 1, act?_of hat0, by simp [Trace.g?, hat0], ⟨c.b + c.n, by simp [Trace.g?, hat0], ?_⟩, by omega, fun i hi1 hi2 => ?_⟩⟩
    · rw [act?_old hq0]; exact hA.act
    · obtain ⟨r, hr, hrq⟩ := hA.all x hx
      exact ⟨r, hr.other hu (by unfold wsOf at hx; omega), hrq⟩
    · rw [deaf_inside t (c.b + c.n) _ _ _ 1 (by simp), h2]
      rfl
    · have := g?_lt hi2
      rw [Array.size_append] at this
      simp [ofEvents_eq] at this
      omega
end
end Pool
end Go.Proofs.YtdkpbobglogmoaaGreat
namespace Go.Proofs.YtdkpbobglogmoaaGreat
open Go Go.Conc
namespace Pool
theorem choose_one (P : Program) (w : World) {n : Nat} (hn : 0 < n) : ∃ b d, b < n ∧ (choose (.extern "which waiting goroutine is the partner" n)).run P w = .ok b (w.at d) := by
  by_cases hf : (Question.extern "which waiting goroutine is the partner" n).forced = true
  · exact ⟨0, w.drawn, hn, by simp [choose, Sem.run, hf, World.at]⟩
  · refine ⟨(Question.extern "which waiting goroutine is the partner" n).cut (w.tape w.drawn (.extern "which waiting goroutine is the partner" n)), w.drawn + 1, ?_, by simp [choose, Sem.run, hf, World.at]⟩
    simp only [Question.cut]
    rw [if_neg (by omega)]
    exact Nat.mod_lt _ hn
theorem recv_pull {P : Program} {gs : Array Goroutine} {w w₁ : World} {sl : Option (Nat × Nat)} {i : Nat} {g g₂ : Goroutine} {es : Array Event} {shape : CommShape} {blocking : Bool} {c cap s r : Nat} {buf : Array Value} {closed tm : Bool} {z : Value}
    (hi : gs[i]? = some g) (h : stepG P (i == 0) g w = .comm g₂ #[rcase c z] blocking shape w₁ es) (hc : w₁.heap[c]? = some (.chan cap buf closed s r tm)) (hsome : 0 < buf.size)
    (hne : partners (gs.setIfInBounds i ph) c true ≠ []) (hall : ∀ j k, (j, k) ∈ partners (gs.setIfInBounds i ph) c true → k = 0 ∧ j ≠ i ∧ ∃ gj vj zj shj, gs[j]? = some (parked gj #[scase c vj zj] shj)) :
    ∃ (j : Nat) (gj : Goroutine) (vj zj : Value) (shj : CommShape) (d : Nat), j ≠ i ∧ gs[j]? = some (parked gj #[scase c vj zj] shj) ∧
      runT P (crowd gs w sl) i = (.next (crowd ((gs.setIfInBounds j (gj.finishComm P #[scase c vj zj] shj 0 undef false)).setIfInBounds i (g₂.finishComm P #[rcase c z] shape 0 (buf.getD 0 undef) true)) ((w₁.at d).setChan c cap ((buf.extract 1 buf.size).push vj) closed (s + 1) (r + 1) tm) sl),
        MemOp.ofEvents i g.frame.fn g.frame.place es ++ #[{ g := i, fn := g₂.frame.fn, pos := g₂.frame.place, act := .recv c r cap }, { g := i, fn := g₂.frame.fn, pos := g₂.frame.place, act := .recvDone c r },
          { g := j, fn := gj.frame.fn, pos := gj.frame.place, act := .send c s }, { g := j, fn := gj.frame.fn, pos := gj.frame.place, act := .sendDone c s }]) := by
  generalize hps : partners (gs.setIfInBounds i ph) c true = ps at hne hall
  have hlen : 0 < ps.length := List.length_pos_iff.2 hne
  obtain ⟨b, d, hb, hrun⟩ := choose_one P w₁ hlen
  obtain ⟨⟨j, k⟩, hjk⟩ : ∃ p, ps[b]? = some p := ⟨ps[b], List.getElem?_eq_getElem hb⟩
  obtain ⟨rfl, hij, gj, vj, zj, shj, hj⟩ := hall j k (List.mem_of_getElem? hjk)
  refine ⟨j, gj, vj, zj, shj, d, hij, hj, ?_⟩
  rw [runT_crowd_comm hi h]
  have hj' := stand_get (i := i) hij hj
  have hfp := finishPartner_at P (gs.setIfInBounds i ph) hj' (cs := #[scase c vj zj]) (sh := shj) rfl 0 undef
  have hgd : (gs.setIfInBounds i ph).getD j default = parked gj #[scase c vj zj] shj := by rw [Array.getD_eq_getD_getElem?, hj']; rfl
  have hov : offeredValue (gs.setIfInBounds i ph) j 0 = vj := by simp [offeredValue, hj', parked, scase]
  have hpd : ps.getD b (0, 0) = (j, 0) := by simp [List.getD, hjk]
  obtain ⟨p0, ps0, rfl⟩ : ∃ p0 ps0, ps = p0 :: ps0 := by cases ps with
    | nil => exact absurd rfl hne
    | cons p0 ps0 => exact ⟨p0, ps0, rfl⟩
  have hw : ways w₁ (gs.setIfInBounds i ph) (rcase c z) = [.buffer] := by simp [ways, rcase, hc, hsome]
  unfold communicate
  simp only [rcase] at hw
  simp [rcase, hw, hc, hps, choose, Sem.run, Question.forced, bind, Sem.bind, pure]
  have hrun' := hrun
  simp only [choose, Sem.run, Question.forced] at hrun'
  simp at hrun'
  have hpd' : (p0 :: ps0)[b]?.getD (0, 0) = (j, 0) := by rw [hjk]; rfl
  have hgd' : (gs.setIfInBounds i ph)[j]?.getD default = parked gj #[scase c vj zj] shj := by rw [hj']; rfl
  rw [hrun']
  simp only [hpd', hgd', hfp, hov, set_stand2, parked, crowd, World.setChan, World.at]
  exact ⟨rfl, trivial⟩
end Pool
end Go.Proofs.YtdkpbobglogmoaaGreat
namespace Go.Proofs.YtdkpbobglogmoaaGreat
open Go Go.Conc
open Go.ConcN (sumTo upd sumTo_upd upd_ne upd_same sumTo_congr le_sumTo)
namespace Pool
variable {c : Cfg}
theorem Ari.main {S S' : St} {m : Nat} {s s1 : Stage} {wk : Bool} (h : Ari c S m) (hm0 : 0 < m) (hs : S.stg 0 = s) (e1 : S'.stg = nxt S.stg 0 s1 wk S.shut) (e2 : S'.j = S.j) (e3 : S'.cl = S.cl) (e4 : S'.shut = S.shut) (e6 : S'.nx = S.nx) (e8 : S'.wtg = S.wtg) (e9 : S'.sm = S.sm)
    (m1 : isM s1 = true) (hv : S'.v + vC s = S.v + vC s1) (hvj : S'.v ≤ S.j + vC s1) (hph : S.j + phv s1 = c.n ∧ S.cl = isRv s1) (hvc : S'.v = S.v ∨ S.cl = false)
    (hcount : ∀ k, (rsOf s1).count k + (S'.bf.map (·.1)).count k = (rsOf s).count k + (S.bf.map (·.1)).count k)
    (hpk : 0 < (sumTo m fun i => pC (S.stg i)) → S'.bf.length = c.n) (hpm : isPk s1 = true → S'.bf = [] ∧ S.shut = false) : Ari c S' m := by
  have zs : ∀ s, isM s = true → lC s = 0 ∧ xC s = 0 ∧ yC s = 0 ∧ pC s = 0 ∧ ∀ k, kC k s = 0 := fun s => by cases s <;> simp [isM, lC, xC, yC, pC, kC]
  obtain ⟨y2, y3, y4, y5, y6⟩ := zs s (hs ▸ h.m0)
  obtain ⟨u2, u3, u4, u5, u6⟩ := zs s1 m1
  have sm : ∀ f : Stage → Nat, (∀ wk sh s, f (wake wk sh s) = f s) → (sumTo m fun i => f (S'.stg i)) + f s = (sumTo m fun i => f (S.stg i)) + f s1 := fun f hf => by
    have := sum_nxt f hf S.stg s1 wk S.shut hm0
    rw [e1, ← hs]
    exact this
  have hb := h.b
  have h0 : S'.stg 0 = s1 := by rw [e1, nxt_self]
  have hn : S'.stg (c.b + c.n) = wake wk S.shut (S.stg (c.b + c.n)) := by rw [e1, nxt_ne _ _ _ _ (by omega)]
  have hw : ∀ i', S'.stg (c.b + i') = wake wk S.shut (S.stg (c.b + i')) := fun i' => by rw [e1, nxt_ne _ _ _ _ (by omega)]
  refine ⟨by rw [e2]; exact h.j, h.b, by rw [h0]; exact m1, fun i' hi' => by rw [hw, isW_wake]; exact h.wk i' (e2 ▸ hi'), fun e => by rw [hn, isC_wake, e2]; exact h.cs (e3 ▸ e), fun i' h1 h2 => by rw [e1, nxt_ne _ _ _ _ (by omega), isQ_wake]; exact h.old i' h1 h2, by rw [h0, e2, e3]; exact hph, ?_, ?_, ?_, by rw [e2, h0]; exact hvj, fun k => ?_, fun i' hi' hl' => ?_, ?_, ?_, fun hp => ?_, fun hp => ?_⟩
  · have := sm vC vC_wake
    have := h.v
    omega
  · have := sm lC lC_wake
    have := h.nx
    rw [e2, e6]
    omega
  · have := sm lC lC_wake
    have := h.lj
    rw [e2]
    omega
  · have := sm (kC k) (fun a b s => kC_wake a b s k)
    have := h.count k
    have := hcount k
    have := y6 k
    have := u6 k
    rw [h0, e6]
    rw [hs] at *
    omega
  · rw [e2] at hi'
    rw [hw, late_wake] at hl'
    rw [e6]
    exact h.lates i' hi' hl'
  · have k1 := sm xC xC_wake
    have k2 := sm yC yC_wake
    have hmm := h.mode
    rw [e3, e8, e9, hn, cK_wake, show (sumTo m fun i => xC (S'.stg i)) = sumTo m fun i => xC (S.stg i) by omega, show (sumTo m fun i => yC (S'.stg i)) = sumTo m fun i => yC (S.stg i) by omega]
    rcases hvc with e | e
    · rw [e]; exact mode_keep (isW3_wake wk S.shut _) hmm
    · rw [e] at hmm ⊢
      unfold ModeP at hmm ⊢
      rcases hmm with a | ⟨a, _⟩ | ⟨a, _⟩
      · exact .inl a
      · cases a
      · cases a
  · rw [e4, e3, hn, isQ_wake]; exact h.shut
  · have := sm pC pC_wake
    rw [e4]
    exact ⟨hpk (by omega), (h.pkw (by omega)).2⟩
  · rw [h0] at hp
    rw [e4]
    exact hpm hp
theorem Ari.spawn {S S' : St} {m r : Nat} {s1 : Stage} (h : Ari c S m) (hm : m = c.b + S.j) (hs : S.stg 0 = .go r) (e1 : S'.stg = upd (nxt S.stg 0 s1 false S.shut) m .L) (e2 : S'.j = S.j + 1) (e3 : S'.cl = S.cl) (e4 : S'.shut = S.shut) (e5 : S'.v = S.v) (e6 : S'.nx = S.nx) (e7 : S'.bf = S.bf) (e8 : S'.wtg = S.wtg) (e9 : S'.sm = S.sm)
    (hr : s1 = (match r with | 0 => .gc | r + 1 => .sp r)) : Ari c S' (m + 1) := by
  have hb := h.b
  obtain ⟨ph1, ph2⟩ := h.ph
  rw [hs] at ph1 ph2
  simp only [phv, isRv] at ph1 ph2
  have hs1 : isM s1 = true ∧ isRv s1 = false ∧ rsOf s1 = [] ∧ vC s1 = 0 ∧ lC s1 = 0 ∧ xC s1 = 0 ∧ yC s1 = 0 ∧ pC s1 = 0 ∧ (∀ k, kC k s1 = 0) ∧ phv s1 = r ∧ isPk s1 = false := by
    subst hr
    cases r <;> exact ⟨rfl, rfl, rfl, rfl, rfl, rfl, rfl, rfl, fun _ => rfl, rfl, rfl⟩
  obtain ⟨t1, t2, t3, t4, t5, t6, t7, t8, t9, t10, t11⟩ := hs1
  have wf : ∀ s, wake false S.shut s = s := fun s => rfl
  have sm : ∀ f : Stage → Nat, (∀ wk sh s, f (wake wk sh s) = f s) → (sumTo (m + 1) fun i => f (S'.stg i)) + f (.go r) = (sumTo m fun i => f (S.stg i)) + f s1 + f .L := fun f hf => by
    have := sum_nxt f hf S.stg s1 false S.shut (i0 := 0) (m := m) (by omega)
    rw [hs] at this
    have e : (sumTo m fun i => f (S'.stg i)) = sumTo m fun i => f (nxt S.stg 0 s1 false S.shut i) := sumTo_congr fun i hi => by rw [e1, upd_ne _ _ (by omega)]
    have e' : f (S'.stg m) = f .L := by rw [e1, upd_same]
    simp only [sumTo]
    omega
  have h0 : S'.stg 0 = s1 := by rw [e1, upd_ne _ _ (by omega), nxt_self]
  have hw : ∀ i, i < S.j → S'.stg (c.b + i) = S.stg (c.b + i) := fun i hi => by rw [e1, upd_ne _ _ (by omega), nxt_ne _ _ _ _ (by omega)]; rfl
  have hwj : S'.stg (c.b + S.j) = .L := by rw [e1, ← hm, upd_same]
  refine ⟨by rw [e2]; omega, h.b, by rw [h0]; exact t1, fun i hi => ?_, fun e => (by rw [e3, ph2] at e; cases e), fun i h1 h2 => by rw [e1, upd_ne _ _ (by omega), nxt_ne _ _ _ _ (by omega)]; exact h.old i h1 h2, by rw [h0, e2, e3, t10, t2, ph2]; exact ⟨by omega, rfl⟩, ?_, ?_, ?_, by rw [e5, e2, h0, t4]; have q := h.vj; rw [hs] at q; exact q, fun k => ?_, fun i hi hl => ?_, ?_, ?_, fun hp => ?_, fun hp => by rw [h0, t11] at hp; cases hp⟩
  · by_cases e : i = S.j
    · subst e; rw [hwj]; rfl
    · rw [hw i (by omega)]; exact h.wk i (by omega)
  · have := sm vC vC_wake
    have := h.v
    have q1 : vC (.go r) = 1 := rfl
    have q2 : vC .L = 1 := rfl
    omega
  · have := sm lC lC_wake
    have := h.nx
    have q1 : lC (.go r) = 0 := rfl
    have q2 : lC .L = 1 := rfl
    rw [e2, e6]
    omega
  · have := sm lC lC_wake
    have := h.lj
    have q1 : lC (.go r) = 0 := rfl
    have q2 : lC .L = 1 := rfl
    rw [e2]
    omega
  · have a := sm (kC k) (fun a b s => kC_wake a b s k)
    have b := h.count k
    have d := t9 k
    have q1 : kC k (.go r) = 0 := rfl
    have q2 : kC k .L = 0 := rfl
    have q3 : rsOf (.go r) = [] := rfl
    rw [hs, q3] at b
    rw [h0, t3, e6, e7]
    omega
  · by_cases e : i = S.j
    · subst e; rw [hwj] at hl; cases hl
    · rw [hw i (by omega)] at hl; rw [e6]; exact h.lates i (by omega) hl
  · have k1 := sm xC xC_wake
    have k2 := sm yC yC_wake
    have q1 : xC (.go r) = 0 := rfl
    have q2 : xC .L = 0 := rfl
    have q3 : yC (.go r) = 0 := rfl
    have q4 : yC .L = 0 := rfl
    have hmm := h.mode
    rw [e3, e5, e8, e9]
    rw [ph2] at hmm ⊢
    unfold ModeP at hmm ⊢
    rcases hmm with ⟨a0, a1, a2, a3, a4⟩ | ⟨a, _⟩ | ⟨a, _⟩
    · exact .inl ⟨.inl rfl, a1, a2, by omega, by omega⟩
    · cases a
    · cases a
  · have := h.shut
    rw [e4, e3]
    rw [ph2] at this ⊢
    simpa using this
  · have := sm pC pC_wake
    have q1 : pC (.go r) = 0 := rfl
    have q2 : pC .L = 0 := rfl
    rw [e4, e7]
    exact h.pkw (by omega)
theorem Ari.spawnC {S S' : St} {m : Nat} (h : Ari c S m) (hm : m = c.b + S.j) (hs : S.stg 0 = .gc) (e1 : S'.stg = upd (nxt S.stg 0 (.rv []) false S.shut) m .W1) (e2 : S'.j = S.j) (e3 : S'.cl = true) (e4 : S'.shut = S.shut) (e5 : S'.v = S.v) (e6 : S'.nx = S.nx) (e7 : S'.bf = S.bf) (e8 : S'.wtg = S.wtg) (e9 : S'.sm = S.sm) : Ari c S' (m + 1) := by
  have hb := h.b
  obtain ⟨ph1, ph2⟩ := h.ph
  rw [hs] at ph1 ph2
  simp only [phv, isRv] at ph1 ph2
  have sm : ∀ f : Stage → Nat, (∀ wk sh s, f (wake wk sh s) = f s) → (sumTo (m + 1) fun i => f (S'.stg i)) + f .gc = (sumTo m fun i => f (S.stg i)) + f (.rv []) + f .W1 := fun f hf => by
    have := sum_nxt f hf S.stg (.rv []) false S.shut (i0 := 0) (m := m) (by omega)
    rw [hs] at this
    have e : (sumTo m fun i => f (S'.stg i)) = sumTo m fun i => f (nxt S.stg 0 (.rv []) false S.shut i) := sumTo_congr fun i hi => by rw [e1, upd_ne _ _ (by omega)]
    have e' : f (S'.stg m) = f .W1 := by rw [e1, upd_same]
    simp only [sumTo]
    omega
  have h0 : S'.stg 0 = .rv [] := by rw [e1, upd_ne _ _ (by omega), nxt_self]
  have hw : ∀ i, i < S.j → S'.stg (c.b + i) = S.stg (c.b + i) := fun i hi => by rw [e1, upd_ne _ _ (by omega), nxt_ne _ _ _ _ (by omega)]; rfl
  have hj : S.j = c.n := by omega
  have hn : S'.stg (c.b + c.n) = .W1 := by rw [e1, ← hj, ← hm, upd_same]
  have nsh : S.shut = false := by
    cases e : S.shut with
    | false => rfl
    | true => have := (h.shut.1 e).1; rw [ph2] at this; cases this
  refine ⟨by rw [e2]; exact h.j, h.b, by rw [h0]; rfl, fun i hi => by rw [e2] at hi; rw [hw i hi]; exact h.wk i hi, fun e => by rw [hn, e2]; exact ⟨hj, rfl⟩, fun i h1 h2 => by rw [e1, upd_ne _ _ (by omega), nxt_ne _ _ _ _ (by omega)]; exact h.old i h1 h2, by rw [h0, e2, e3]; exact ⟨hj, rfl⟩, ?_, ?_, ?_, by rw [e5, e2, h0]; have q := h.vj; rw [hs] at q; exact q, fun k => ?_, fun i hi hl => by rw [e2] at hi; rw [hw i hi] at hl; rw [e6]; exact h.lates i hi hl, ?_, ?_, fun hp => ?_, fun hp => by rw [h0] at hp; cases hp⟩
  · have := sm vC vC_wake
    have := h.v
    have q1 : vC .gc = 0 := rfl
    have q2 : vC .W1 = 0 := rfl
    have q3 : vC (.rv []) = 0 := rfl
    omega
  · have := sm lC lC_wake
    have := h.nx
    have q1 : lC .gc = 0 := rfl
    have q2 : lC .W1 = 0 := rfl
    have q3 : lC (.rv []) = 0 := rfl
    rw [e2, e6]
    omega
  · have := sm lC lC_wake
    have := h.lj
    have q1 : lC .gc = 0 := rfl
    have q2 : lC .W1 = 0 := rfl
    have q3 : lC (.rv []) = 0 := rfl
    rw [e2]
    omega
  · have a := sm (kC k) (fun a b s => kC_wake a b s k)
    have b := h.count k
    have q1 : kC k .gc = 0 := rfl
    have q2 : kC k .W1 = 0 := rfl
    have q3 : kC k (.rv []) = 0 := rfl
    have q4 : rsOf .gc = [] := rfl
    have q5 : rsOf (.rv []) = [] := rfl
    rw [hs, q4] at b
    rw [h0, q5, e6, e7]
    omega
  · have k1 := sm xC xC_wake
    have k2 := sm yC yC_wake
    have q1 : xC .gc = 0 := rfl
    have q2 : xC .W1 = 0 := rfl
    have q3 : yC .gc = 0 := rfl
    have q4 : yC .W1 = 0 := rfl
    have q5 : xC (.rv []) = 0 := rfl
    have q6 : yC (.rv []) = 0 := rfl
    have hmm := h.mode
    rw [e3, e5, e8, e9, hn]
    rw [ph2] at hmm
    unfold ModeP at hmm ⊢
    rcases hmm with ⟨a0, a1, a2, a3, a4⟩ | ⟨a, _⟩ | ⟨a, _⟩
    · exact .inl ⟨.inr rfl, a1, a2, by omega, by omega⟩
    · cases a
    · cases a
  · rw [e4, e3, hn, nsh]
    simp [isQ]
  · have := sm pC pC_wake
    have q1 : pC .gc = 0 := rfl
    have q2 : pC .W1 = 0 := rfl
    have q3 : pC (.rv []) = 0 := rfl
    rw [e4, e7]
    exact h.pkw (by omega)
theorem Ari.pull {S S' : St} {m i k0 k1 : Nat} {rs : List Nat} {v0 v1 : Value} {tl : List (Nat × Value)} (h : Ari c S m) (hm : m = c.b + S.j + (if S.cl then 1 else 0)) (hi : i < S.j) (hs : S.stg 0 = .rv rs) (hsi : S.stg (c.b + i) = .K k1) (hbf : S.bf = (k0, v0) :: tl)
    (e1 : S'.stg = nxt (nxt S.stg 0 (.rv (rs ++ [k0])) false S.shut) (c.b + i) .L false S.shut) (e2 : S'.j = S.j) (e3 : S'.cl = S.cl) (e4 : S'.shut = S.shut) (e5 : S'.v = S.v) (e6 : S'.nx = S.nx) (e7 : S'.bf = tl ++ [(k1, v1)]) (e8 : S'.wtg = S.wtg) (e9 : S'.sm = S.sm) : Ari c S' m := by
  have hb := h.b
  have him : c.b + i < m := by omega
  have sm : ∀ f : Stage → Nat, (∀ wk sh s, f (wake wk sh s) = f s) → (sumTo m fun i => f (S'.stg i)) + f (.rv rs) + f (.K k1) = (sumTo m fun i => f (S.stg i)) + f (.rv (rs ++ [k0])) + f .L := fun f hf => by
    have a := sum_nxt f hf S.stg (.rv (rs ++ [k0])) false S.shut (i0 := 0) (m := m) (by omega)
    have b := sum_nxt f hf (nxt S.stg 0 (.rv (rs ++ [k0])) false S.shut) .L false S.shut him
    rw [nxt_ne _ _ _ _ (by omega), hf, hsi] at b
    rw [hs] at a
    rw [e1]
    omega
  have h0 : S'.stg 0 = .rv (rs ++ [k0]) := by rw [e1, nxt_ne _ _ _ _ (by omega), nxt_self]; rfl
  have hn : S.cl = true → S'.stg (c.b + c.n) = S.stg (c.b + c.n) := fun e => by have := (h.cs e).1; rw [e1, nxt_ne _ _ _ _ (by omega), nxt_ne _ _ _ _ (by omega)]; rfl
  have hw : ∀ i', i' ≠ i → S'.stg (c.b + i') = S.stg (c.b + i') := fun i' hi' => by rw [e1, nxt_ne _ _ _ _ (by omega), nxt_ne _ _ _ _ (by omega)]; rfl
  have hwi : S'.stg (c.b + i) = .L := by rw [e1, nxt_self]
  obtain ⟨ph1, ph2⟩ := h.ph
  rw [hs] at ph1 ph2
  simp only [phv, isRv] at ph1 ph2
  have hfull : S.bf.length = c.n ∧ S.shut = false := h.pkw (by
    have b1 : pC (S.stg (c.b + i)) ≤ sumTo m fun i => pC (S.stg i) := le_sumTo (f := fun i => pC (S.stg i)) him
    rw [hsi] at b1
    exact b1)
  refine ⟨by rw [e2]; exact h.j, h.b, by rw [h0]; rfl, fun i' hi' => ?_, fun e => by rw [e3] at e; rw [hn e, e2]; exact h.cs e, fun i' h1 h2 => by rw [e1, nxt_ne _ _ _ _ (by omega), nxt_ne _ _ _ _ (by omega)]; exact h.old i' h1 h2, by rw [h0, e2, e3]; exact ⟨ph1, ph2⟩, ?_, ?_, ?_, by rw [e5, e2, h0]; have q := h.vj; rw [hs] at q; exact q, fun k => ?_, fun i' hi' hl' => ?_, ?_, ?_, fun hp => ?_, fun hp => by rw [h0] at hp; cases hp⟩
  · by_cases e : i' = i
    · subst e; rw [hwi]; rfl
    · rw [hw i' e]; exact h.wk i' (e2 ▸ hi')
  · have a := sm vC vC_wake
    have b := h.v
    have q1 : vC (.rv rs) = 0 := rfl
    have q2 : vC (.rv (rs ++ [k0])) = 0 := rfl
    have q3 : vC (.K k1) = 1 := rfl
    have q4 : vC .L = 1 := rfl
    rw [e5]
    omega
  · have := sm lC lC_wake
    have := h.nx
    have q1 : lC (.rv rs) = 0 := rfl
    have q2 : lC (.rv (rs ++ [k0])) = 0 := rfl
    have q3 : lC (.K k1) = 1 := rfl
    have q4 : lC .L = 1 := rfl
    rw [e2, e6]
    omega
  · have := sm lC lC_wake
    have := h.lj
    have q1 : lC (.rv rs) = 0 := rfl
    have q2 : lC (.rv (rs ++ [k0])) = 0 := rfl
    have q3 : lC (.K k1) = 1 := rfl
    have q4 : lC .L = 1 := rfl
    rw [e2]
    omega
  · have a := sm (kC k) (fun a b s => kC_wake a b s k)
    have b := h.count k
    have q1 : kC k (.rv rs) = 0 := rfl
    have q2 : kC k (.rv (rs ++ [k0])) = 0 := rfl
    have q4 : kC k .L = 0 := rfl
    have q3 : kC k (.K k1) = List.count k [k1] := by
      simp only [kC, List.count_cons, List.count_nil, beq_iff_eq]
      split <;> simp
    rw [hs, hbf] at b
    rw [h0, e6, e7]
    simp only [rsOf, List.map_append, List.map_cons, List.map_nil, List.count_append] at b ⊢
    rw [show (k0 :: List.map (fun x => x.1) tl : List Nat) = [k0] ++ List.map (fun x => x.1) tl from rfl, List.count_append] at b
    omega
  · by_cases e : i' = i
    · subst e; rw [hwi] at hl'; cases hl'
    · rw [hw i' e] at hl'; rw [e6]; exact h.lates i' (e2 ▸ hi') hl'
  · have k1' := sm xC xC_wake
    have k2' := sm yC yC_wake
    have q1 : xC (.rv rs) = 0 ∧ xC (.rv (rs ++ [k0])) = 0 ∧ xC (.K k1) = 0 ∧ xC .L = 0 := ⟨rfl, rfl, rfl, rfl⟩
    have q2 : yC (.rv rs) = 0 ∧ yC (.rv (rs ++ [k0])) = 0 ∧ yC (.K k1) = 0 ∧ yC .L = 0 := ⟨rfl, rfl, rfl, rfl⟩
    rw [e3, e5, e8, e9, hn ph2, show (sumTo m fun i => xC (S'.stg i)) = sumTo m fun i => xC (S.stg i) by omega, show (sumTo m fun i => yC (S'.stg i)) = sumTo m fun i => yC (S.stg i) by omega]
    exact h.mode
  · rw [e4, e3, hn ph2]; exact h.shut
  · rw [e4, e7]
    refine ⟨?_, hfull.2⟩
    have := hfull.1
    rw [hbf] at this
    simp at this ⊢
    omega
end Pool
end Go.Proofs.YtdkpbobglogmoaaGreat
