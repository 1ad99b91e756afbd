/- Parts of the proof of TopCommandsProof: PoolInv PoolAri PoolStep. -/
import Derived.Conc.CrowdCom
import Derived.Test.YtdkpbobglogmoaaGreatTk10
set_option linter.unusedVariables false
set_option linter.unusedSimpArgs false
set_option maxRecDepth 100000
set_option maxHeartbeats 32000000
namespace Go.Proofs.YtdkpbobglogmoaaGreat
open Go Go.Conc
open Go.ConcR (KK wgBlock WgAt stA smA rd wr mk)
open Go.ConcN (sumTo upd sumTo_upd upd_ne upd_same sumTo_congr)
namespace Pool
open Ren (Loc.blk Rely Gt Gk Rk Terms Did EvO New With)
def wake (wk sh : Bool) (s : Stage) : Stage := if wk then (match s with | .B3 => .W3 | .pk rs => if sh then .rv rs else .pk rs | s => s) else s
def vC : Stage → Nat | .L | .S _ | .K _ | .R | .D | .go _ => 1 | _ => 0
def lC : Stage → Nat | .L | .S _ | .K _ => 1 | _ => 0
def kC (k : Nat) : Stage → Nat | .S m | .K m => if m = k then 1 else 0 | _ => 0
def xC : Stage → Nat | .D2 | .D3 => 1 | _ => 0
def yC : Stage → Nat | .D4 => 1 | _ => 0
def pC : Stage → Nat | .K _ => 1 | _ => 0
def rsOf : Stage → List Nat | .rv rs | .pk rs => rs | _ => []
def isM : Stage → Bool | .sp _ | .go _ | .gc | .rv _ | .pk _ => true | _ => false
def isW : Stage → Bool | .L | .S _ | .K _ | .R | .D | .D2 | .D3 | .D4 | .Q => true | _ => false
def isC : Stage → Bool | .W1 | .W2 _ | .W3 | .B3 | .W4 | .AQ | .CL | .Q => true | _ => false
def out : Stage → Bool | .D | .D2 | .D3 | .D4 | .Q => true | _ => false
def late : Stage → Bool | .R | .D | .D2 | .D3 | .D4 | .Q => true | _ => false
def cK : Stage → Nat | .W3 | .B3 => 1 | .W4 | .AQ | .CL | .Q => 2 | _ => 0
def isW3 : Stage → Bool | .W3 => true | _ => false
def isCL : Stage → Bool | .CL | .Q => true | _ => false
def isQ : Stage → Bool | .Q => true | _ => false
def isPk : Stage → Bool | .pk _ => true | _ => false
def phv : Stage → Nat | .sp r | .go r => r + 1 | _ => 0
def isRv : Stage → Bool | .rv _ | .pk _ => true | _ => false
def wgt : Stage → Nat
  | .sp r => 25 + 10 * r | .go r => 24 + 10 * r | .gc => 15 | .rv _ => 2 | .pk _ => 1
  | .L => 8 | .S _ => 11 | .K _ => 10 | .R => 7 | .D => 6 | .D2 => 3 | .D3 => 2 | .D4 => 1
  | .W1 => 12 | .W2 _ => 11 | .W3 => 10 | .B3 => 10 | .W4 => 9 | .AQ => 8 | .CL => 7
  | .Q => 0
def stale (v : Nat) : Stage → Nat | .W2 vs => if vs = v then 0 else 2 | _ => 0
def ModeP (cl : Bool) (ck : Nat) (w3 : Bool) (v wt sm x y : Nat) : Prop :=
  (cl = false ∨ ck = 0) ∧ wt = 0 ∧ sm = 0 ∧ x = 0 ∧ y = 0 ∨
  cl = true ∧ ck = 1 ∧ (1 ≤ v ∧ wt = 1 ∧ sm = 0 ∧ x = 0 ∧ y = 0 ∨ v = 0 ∧ (wt = 1 ∧ x = 1 ∧ y = 0 ∧ sm = 0 ∨ wt = 0 ∧ x = 0 ∧ y = 1 ∧ sm = 0 ∨ wt = 0 ∧ x = 0 ∧ y = 0 ∧ sm = 1 ∧ w3 = true)) ∨
  cl = true ∧ ck = 2 ∧ v = 0 ∧ wt = 0 ∧ sm = 0 ∧ x = 0 ∧ y = 0
structure St where
  stg : Nat → Stage
  rk : Nat → Rk
  lay : Lay
  j : Nat
  cl : Bool
  nx : Nat
  bf : List (Nat × Value)
  s : Nat
  r : Nat
  shut : Bool
  v : Nat
  wtg : Nat
  sm : Nat
variable (c : Cfg)
structure Sits (S : St) (gs : Array Goroutine) (w : World) (t : Trace) : Prop where
  sit : ∀ i g, gs[i]? = some g → Ok c (S.stg i) (S.rk i) (Deaf t i) (S.lay.own i) g w
  above : ∀ i, gs.size ≤ i → Deaf t i = 0
  size : gs.size = c.b + S.j + (if S.cl then 1 else 0)
def kid (S : St) (g : Nat) : Prop := c.b ≤ g ∧ g < c.b + S.j + (if S.cl then 1 else 0)
def who (S : St) : Nat := if S.cl then c.b + c.n else 0
def wsOf (g : Nat) : Prop := c.b ≤ g ∧ g < c.b + c.n
structure Tra (Shun : Loc → Prop) (S : St) (w : World) (t : Trace) : Prop where
  ap : S.lay.Apart
  cold : S.lay.Cold = c.Cold
  sb : S.lay.Sb = c.Sb
  own : ∀ g b, S.lay.own g b → b < w.heap.size ∧ (g = 0 ∨ kid c S g)
  fl : ∀ k b, S.lay.fl k b → b < w.heap.size ∧ S.r ≤ k ∧ k < S.s
  coldLt : ∀ b, c.Cold b → b < w.heap.size
  sbLt : ∀ b, c.Sb b → b < w.heap.size
  pt : PT S.lay c.C c.Wg Shun w.heap.size (kid c S) (who c S) t
  rel : ∀ i, i < S.j → out (S.stg (c.b + i)) = true → ∃ r, Rel c.Wg t (c.b + i) r
  acq : S.cl = true → isCL (S.stg (c.b + c.n)) = true → ∃ q, Acq c.Wg t (c.b + c.n) q (wsOf c) ∧ (isQ (S.stg (c.b + c.n)) = true → ∃ p, Shut c.C t (c.b + c.n) q p)
structure Hea (S : St) (w : World) : Prop where
  wg : WgAt c.ty c.Wg w (S.v * KK + S.wtg) S.sm
  ct : CtAt c w S.nx
  ch : ChAt c w (S.bf.map (·.2)).toArray S.shut S.s S.r
  items : ∀ i k v, S.bf[i]? = some (k, v) → c.Item k v (S.lay.fl (S.r + i)) w
  len : S.s = S.r + S.bf.length
  room : S.bf.length ≤ c.n
structure Ari (S : St) (m : Nat) : Prop where
  j : S.j ≤ c.n
  b : 0 < c.b
  m0 : isM (S.stg 0) = true
  wk : ∀ i, i < S.j → isW (S.stg (c.b + i)) = true
  cs : S.cl = true → S.j = c.n ∧ isC (S.stg (c.b + c.n)) = true
  old : ∀ i, 0 < i → i < c.b → isQ (S.stg i) = true
  ph : S.j + phv (S.stg 0) = c.n ∧ S.cl = isRv (S.stg 0)
  v : S.v = sumTo m fun i => vC (S.stg i)
  nx : S.nx + (sumTo m fun i => lC (S.stg i)) ≤ c.N + S.j
  lj : (sumTo m fun i => lC (S.stg i)) ≤ S.j
  vj : S.v ≤ S.j + vC (S.stg 0)
  count : ∀ k, (rsOf (S.stg 0)).count k + (S.bf.map (·.1)).count k + (sumTo m fun i => kC k (S.stg i)) = if k < S.nx ∧ k < c.N then 1 else 0
  lates : ∀ i, i < S.j → late (S.stg (c.b + i)) = true → c.N ≤ S.nx
  mode : ModeP S.cl (cK (S.stg (c.b + c.n))) (isW3 (S.stg (c.b + c.n))) S.v S.wtg S.sm (sumTo m fun i => xC (S.stg i)) (sumTo m fun i => yC (S.stg i))
  shut : S.shut = true ↔ S.cl = true ∧ isQ (S.stg (c.b + c.n)) = true
  pkw : 0 < (sumTo m fun i => pC (S.stg i)) → S.bf.length = c.n ∧ S.shut = false
  pkm : isPk (S.stg 0) = true → S.bf = [] ∧ S.shut = false
structure Inv (Shun : Loc → Prop) (S : St) (gs : Array Goroutine) (w : World) (t : Trace) : Prop where
  sits : Sits c S gs w t
  tra : Tra c Shun S w t
  hea : Hea c S w
  ari : Ari c S gs.size
variable {c}
structure Kept (S : St) (i0 : Nat) (w w' : World) : Prop where
  size : w.heap.size ≤ w'.heap.size
  kept : ∀ b, b < w.heap.size → ¬ S.lay.own i0 b → ¬ c.Sb b → w'.heap[b]? = w.heap[b]?
  rest : w'.os = w.os ∧ w'.output = w.output
  liv : c.Liv w → c.Liv w'
theorem Kept.rely {Shun : Loc → Prop} {S : St} {w w' : World} {t : Trace} {i0 : Nat} (k : Kept (c := c) S i0 w w') (h : Tra c Shun S w t) {O : Nat → Prop} (hO : ∀ b, O b → b < w.heap.size ∧ ¬ S.lay.own i0 b ∧ ¬ c.Sb b) : Rely c.Cold c.Liv O w w' :=
  ⟨k.size, fun b hb => let ⟨h1, h2, h3⟩ := hO b hb; k.kept b h1 h2 h3, fun b hb => k.kept b (h.coldLt b hb) (fun ho => h.ap.oc i0 b ho (h.cold ▸ hb)) (fun hs => h.ap.cs b (h.cold ▸ hb) (h.sb ▸ hs)), k.rest, k.liv⟩
theorem Kept.other {Shun : Loc → Prop} {S : St} {w w' : World} {t : Trace} {i0 i : Nat} (k : Kept (c := c) S i0 w w') (h : Tra c Shun S w t) (hi : i ≠ i0) : Rely c.Cold c.Liv (S.lay.own i) w w' :=
  k.rely h fun b hb => ⟨(h.own i b hb).1, fun ho => hi (h.ap.oo i i0 b hb ho), fun hs => h.ap.os i b hb (h.sb ▸ hs)⟩
theorem Kept.fly {Shun : Loc → Prop} {S : St} {w w' : World} {t : Trace} {i0 n : Nat} (k : Kept (c := c) S i0 w w') (h : Tra c Shun S w t) : Rely c.Cold c.Liv (S.lay.fl n) w w' :=
  k.rely h fun b hb => ⟨(h.fl n b hb).1, fun ho => h.ap.of i0 n b ho hb, fun hs => h.ap.fs n b hb (h.sb ▸ hs)⟩
theorem Kept.at (S : St) (i0 : Nat) (w : World) (d : Nat) : Kept (c := c) S i0 w (w.at d) := ⟨Nat.le_refl _, fun _ _ _ _ => rfl, ⟨rfl, rfl⟩, id⟩
theorem rely0 {Cold : Nat → Prop} {Liv : World → Prop} {O : Nat → Prop} {w w' : World} (h : Rely Cold Liv O w w') : Rely (fun _ => False) Liv O w w' := ⟨h.size, h.own, fun _ h => h.elim, h.rest, h.liv⟩
theorem relyN {Cold : Nat → Prop} {Liv : World → Prop} {O : Nat → Prop} {w w' : World} (h : Rely Cold Liv O w w') : Rely Cold Liv None w w' := ⟨h.size, fun _ h => h.elim, h.cold, h.rest, h.liv⟩
theorem Gk.run {T : Terms} {Stop : Stp} {k : Rk} {d : Nat} {O : Nat → Prop} {g : Goroutine} {w : World} (h : Gk T Stop k d O g w) (hs : ∀ d O g w, Stop d O g w → g.status = .running) : g.status = .running := by
  cases h with
  | stop h => exact hs _ _ _ _ (h w (Rely.refl w))
  | step h1 _ _ => exact h1
theorem Ok.status {s : Stage} {k : Rk} {d : Nat} {O : Nat → Prop} {g : Goroutine} {w : World} (h : Ok c s k d O g w) : g.status = .running ∨ g.status = .finished ∨ g.status = .blocked := by
  cases s with
  | pk rs => obtain ⟨_, g0, z, _, rfl, _⟩ := h; exact .inr (.inr rfl)
  | K n => obtain ⟨_, _, g0, z, v, rfl, _⟩ := h; exact .inr (.inr rfl)
  | B3 => obtain ⟨_, g0, _, rfl⟩ := h; exact .inr (.inr rfl)
  | Q => obtain ⟨q, _, h⟩ := h; exact h.status.elim .inl fun x => .inr (.inl x)
  | D => exact .inl (Gk.run h.1 fun _ _ _ _ h => h.1)
  | W2 v => exact .inl (Gk.run h.1 fun _ _ _ _ h => h.1)
  | D2 => exact .inl (Gk.run h.1 fun _ _ _ _ h => h.1)
  | D3 => exact .inl (Gk.run h.1 fun _ _ _ _ h => h.1)
  | D4 => exact .inl (Gk.run h.1 fun _ _ _ _ h => h.1)
  | _ => exact .inl (Gk.run h fun _ _ _ _ h => h.1)
theorem Ok.awake {s : Stage} {k : Rk} {d : Nat} {O : Nat → Prop} {g : Goroutine} {w : World} (h : Ok c s k d O g w) : awake g := by
  intro tm e
  rcases h.status with h | h | h <;> rw [h] at e <;> cases e
def wks (P : Program) (a a' : Goroutine) : Bool := mayWake P a && a'.status != .blocked && a'.status != .waiting
theorem woken_eq (P : Program) (a a' : Goroutine) (w : World) (o : Goroutine) : woken P a a' w o = if wks P a a' then o.again w else o := rfl
theorem Ok.other {s : Stage} {k : Rk} {d : Nat} {O : Nat → Prop} {g : Goroutine} {w w' : World} (h : Ok c s k d O g w) (hr : Rely c.Cold c.Liv O w w') {buf : Array Value} {sh : Bool} {sn rn : Nat} (hc : ChAt c w' buf sh sn rn) (hk : pC s = 1 → sh = false) (a a' : Goroutine) :
    Ok c (wake (wks c.P a a') sh s) k d O (woken c.P a a' w' g) w' := by
  have running : g.status = .running → woken c.P a a' w' g = g := fun e => by
    rw [woken_eq]
    split
    · exact again_running w' (.inl e)
    · rfl
  have hN := relyN hr
  have h0 := rely0 hr
  have same : ∀ s, (s ≠ .B3 ∧ ∀ rs, s ≠ .pk rs) → wake (wks c.P a a') sh s = s := fun s ⟨h1, h2⟩ => by
    unfold wake
    split
    · split
      · exact absurd rfl h1
      · exact absurd rfl (h2 _)
      · rfl
    · rfl
  cases s with
  | pk rs =>
    obtain ⟨hl, g0, z, h1, rfl, h3⟩ := h
    rw [woken_eq]
    unfold wake
    cases hw : wks c.P a a' with
    | false => exact ⟨hl, g0, z, fun w1 r => h1 w1 (hr.trans r), rfl, h3⟩
    | true =>
      cases sh with
      | false =>
        simp only [if_true, Bool.false_eq_true, if_false]
        rw [show (parked (core g0) #[rcase c.C z] (.recv true)).again w' = _ from again_recv_open hc]
        exact ⟨hl, g0, z, fun w1 r => h1 w1 (hr.trans r), rfl, h3⟩
      | true =>
        simp only [if_true]
        rw [show (parked (core g0) #[rcase c.C z] (.recv true)).again w' = _ from again_recv_closed hc]
        subst hl
        refine .stop fun w1 r => ?_
        obtain ⟨e1, e2, z', e3, e4, e5⟩ := h1 w1 (hr.trans r)
        have st : ∀ w2, stepG c.P true { parked (core g0) #[rcase c.C z] (.recv true) with status := .running } w2 = stepG c.P true g0 w2 := fun w2 => stepG_same rfl rfl rfl w2
        exact ⟨rfl, e2, z', by rw [st]; exact e3, e4, e5⟩
  | K n =>
    obtain ⟨hk0, hd, g0, z, v, rfl, h1, h2⟩ := h
    have hsh : sh = false := hk rfl
    subst hsh
    rw [same _ ⟨by simp, by simp⟩, woken_eq]
    have : (if wks c.P a a' = true then (parked (core g0) #[scase c.C v z] .send).again w' else parked (core g0) #[scase c.C v z] .send) = parked (core g0) #[scase c.C v z] .send := by
      split
      · exact again_send_open hc
      · rfl
    rw [this]
    exact ⟨hk0, hd, g0, z, v, rfl, fun w1 r => h1 w1 (hr.trans r), fun w1 r => h2 w1 (hN.trans r)⟩
  | B3 =>
    obtain ⟨hk, g0, h1, rfl⟩ := h
    rw [woken_eq]
    unfold wake
    cases hw : wks c.P a a' with
    | false => exact ⟨hk, g0, fun w1 r => h1 w1 (hr.trans r), rfl⟩
    | true =>
      simp only [if_true]
      obtain ⟨e1, e2, e3, _⟩ := h1 w' hr
      have : ({ g0 with status := .blocked } : Goroutine).again w' = g0 := by
        obtain ⟨f, cs, st, dy, off⟩ := g0
        simp only at e1 e3
        subst e1 e3
        rfl
      rw [this]
      subst hk
      exact .stop fun w1 r => h1 w1 (hr.trans r)
  | Q =>
    obtain ⟨q, hk, h⟩ := h
    rw [same _ ⟨by simp, by simp⟩, woken_quitsD h]
    exact ⟨q, hk, h⟩
  | D => rw [same _ ⟨by simp, by simp⟩, running (Gk.run h.1 fun _ _ _ _ h => h.1)]; exact ⟨h.1.rely h0, h.2⟩
  | D2 => rw [same _ ⟨by simp, by simp⟩, running (Gk.run h.1 fun _ _ _ _ h => h.1)]; exact ⟨h.1.rely h0, h.2⟩
  | D3 => rw [same _ ⟨by simp, by simp⟩, running (Gk.run h.1 fun _ _ _ _ h => h.1)]; exact ⟨h.1.rely h0, h.2⟩
  | D4 => rw [same _ ⟨by simp, by simp⟩, running (Gk.run h.1 fun _ _ _ _ h => h.1)]; exact ⟨h.1.rely h0, h.2⟩
  | sp r => rw [same _ ⟨by simp, by simp⟩, running (Gk.run h fun _ _ _ _ h => h.1)]; exact Ren.Gk.rely h hr
  | go r => rw [same _ ⟨by simp, by simp⟩, running (Gk.run h fun _ _ _ _ h => h.1)]; exact Ren.Gk.rely h hr
  | gc => rw [same _ ⟨by simp, by simp⟩, running (Gk.run h fun _ _ _ _ h => h.1)]; exact Ren.Gk.rely h hr
  | rv rs => rw [same _ ⟨by simp, by simp⟩, running (Gk.run h fun _ _ _ _ h => h.1)]; exact Ren.Gk.rely h hr
  | L => rw [same _ ⟨by simp, by simp⟩, running (Gk.run h fun _ _ _ _ h => h.1)]; exact Ren.Gk.rely h hr
  | S n => rw [same _ ⟨by simp, by simp⟩, running (Gk.run h fun _ _ _ _ h => h.1)]; exact Ren.Gk.rely h hr
  | R => rw [same _ ⟨by simp, by simp⟩, running (Gk.run h fun _ _ _ _ h => h.1)]; exact Ren.Gk.rely h hr
  | W1 => rw [same _ ⟨by simp, by simp⟩, running (Gk.run h fun _ _ _ _ h => h.1)]; exact Ren.Gk.rely h hr
  | W2 v => rw [same _ ⟨by simp, by simp⟩, running (Gk.run h.1 fun _ _ _ _ h => h.1)]; exact ⟨Ren.Gk.rely h.1 hr, h.2⟩
  | W3 => rw [same _ ⟨by simp, by simp⟩, running (Gk.run h fun _ _ _ _ h => h.1)]; exact Ren.Gk.rely h hr
  | W4 => rw [same _ ⟨by simp, by simp⟩, running (Gk.run h fun _ _ _ _ h => h.1)]; exact Ren.Gk.rely h hr
  | AQ => rw [same _ ⟨by simp, by simp⟩, running (Gk.run h fun _ _ _ _ h => h.1)]; exact Ren.Gk.rely h hr
  | CL => rw [same _ ⟨by simp, by simp⟩, running (Gk.run h fun _ _ _ _ h => h.1)]; exact Ren.Gk.rely h hr
end Pool
end Go.Proofs.YtdkpbobglogmoaaGreat
namespace Go.Proofs.YtdkpbobglogmoaaGreat
open Go Go.Conc
open Go.ConcR (KK wgBlock WgAt stA smA rd wr mk)
open Go.ConcN (sumTo upd sumTo_upd upd_ne upd_same sumTo_congr le_sumTo)
namespace Pool
open Ren (Loc.blk Rely Gt Gk Rk Terms Did EvO New With)
def nxt (stg : Nat → Stage) (i0 : Nat) (s1 : Stage) (wk sh : Bool) : Nat → Stage := fun i => if i = i0 then s1 else wake wk sh (stg i)
section
variable (wk sh : Bool) (s : Stage)
theorem wake_cases : wake wk sh s = s ∨ (s = .B3 ∧ wake wk sh s = .W3) ∨ ∃ rs, s = .pk rs ∧ wake wk sh s = .rv rs ∧ sh = true := by
  cases wk with
  | false => exact .inl rfl
  | true =>
    cases s with
    | B3 => exact .inr (.inl ⟨rfl, rfl⟩)
    | pk rs => cases sh with
      | false => exact .inl rfl
      | true => exact .inr (.inr ⟨rs, rfl, rfl, rfl⟩)
    | _ => exact .inl rfl
theorem wake_inv {α : Type} (f : Stage → α) (e1 : f .W3 = f .B3) (e2 : ∀ rs, f (.rv rs) = f (.pk rs)) : f (wake wk sh s) = f s := by
  rcases wake_cases wk sh s with h | ⟨h1, h2⟩ | ⟨rs, h1, h2, _⟩
  · rw [h]
  · rw [h2, h1]; exact e1
  · rw [h2, h1]; exact e2 rs
theorem vC_wake : vC (wake wk sh s) = vC s := wake_inv wk sh s vC rfl fun _ => rfl
theorem lC_wake : lC (wake wk sh s) = lC s := wake_inv wk sh s lC rfl fun _ => rfl
theorem xC_wake : xC (wake wk sh s) = xC s := wake_inv wk sh s xC rfl fun _ => rfl
theorem yC_wake : yC (wake wk sh s) = yC s := wake_inv wk sh s yC rfl fun _ => rfl
theorem pC_wake : pC (wake wk sh s) = pC s := wake_inv wk sh s pC rfl fun _ => rfl
theorem rsOf_wake : rsOf (wake wk sh s) = rsOf s := wake_inv wk sh s rsOf rfl fun _ => rfl
theorem isM_wake : isM (wake wk sh s) = isM s := wake_inv wk sh s isM rfl fun _ => rfl
theorem isW_wake : isW (wake wk sh s) = isW s := wake_inv wk sh s isW rfl fun _ => rfl
theorem isC_wake : isC (wake wk sh s) = isC s := wake_inv wk sh s isC rfl fun _ => rfl
theorem out_wake : out (wake wk sh s) = out s := wake_inv wk sh s out rfl fun _ => rfl
theorem late_wake : late (wake wk sh s) = late s := wake_inv wk sh s late rfl fun _ => rfl
theorem cK_wake : cK (wake wk sh s) = cK s := wake_inv wk sh s cK rfl fun _ => rfl
theorem isCL_wake : isCL (wake wk sh s) = isCL s := wake_inv wk sh s isCL rfl fun _ => rfl
theorem isQ_wake : isQ (wake wk sh s) = isQ s := wake_inv wk sh s isQ rfl fun _ => rfl
theorem phv_wake : phv (wake wk sh s) = phv s := wake_inv wk sh s phv rfl fun _ => rfl
theorem isRv_wake : isRv (wake wk sh s) = isRv s := wake_inv wk sh s isRv rfl fun _ => rfl
theorem kC_wake (k : Nat) : kC k (wake wk sh s) = kC k s := wake_inv wk sh s (kC k) rfl fun _ => rfl
theorem stale_wake (v : Nat) : stale v (wake wk sh s) = stale v s := wake_inv wk sh s (stale v) rfl fun _ => rfl
theorem isW3_wake (h : isW3 s = true) : isW3 (wake wk sh s) = true := by
  rcases wake_cases wk sh s with h1 | ⟨h1, h2⟩ | ⟨rs, h1, h2, _⟩
  · rw [h1]; exact h
  · rw [h2]; rfl
  · rw [h1] at h; cases h
theorem isPk_wake (h : isPk (wake wk sh s) = true) : isPk s = true := by
  rcases wake_cases wk sh s with h1 | ⟨h1, h2⟩ | ⟨rs, h1, h2, _⟩
  · rw [h1] at h; exact h
  · rw [h2] at h; cases h
  · rw [h1]; rfl
theorem wgt_wake (h : isPk s = true → sh = false) : wgt (wake wk sh s) = wgt s := by
  rcases wake_cases wk sh s with h1 | ⟨h1, h2⟩ | ⟨rs, h1, h2, h3⟩
  · rw [h1]
  · rw [h2, h1]; rfl
  · subst h1 h3
    exact absurd (h rfl) (by simp)
theorem wgt_wake_le : wgt (wake wk sh s) ≤ wgt s + (if isPk s = true then 1 else 0) := by
  rcases wake_cases wk sh s with h1 | ⟨h1, h2⟩ | ⟨rs, h1, h2, h3⟩
  · rw [h1]; omega
  · rw [h2, h1]; simp [wgt]
  · rw [h2, h1]; simp [wgt, isPk]
end
theorem nxt_self (stg : Nat → Stage) (i0 : Nat) (s1 : Stage) (wk sh : Bool) : nxt stg i0 s1 wk sh i0 = s1 := by simp [nxt]
theorem nxt_ne (stg : Nat → Stage) {i0 i : Nat} (s1 : Stage) (wk sh : Bool) (h : i ≠ i0) : nxt stg i0 s1 wk sh i = wake wk sh (stg i) := by simp [nxt, h]
theorem sum_nxt (f : Stage → Nat) (hf : ∀ wk sh s, f (wake wk sh s) = f s) (stg : Nat → Stage) {i0 m : Nat} (s1 : Stage) (wk sh : Bool) (h : i0 < m) :
    (sumTo m fun i => f (nxt stg i0 s1 wk sh i)) + f (stg i0) = (sumTo m fun i => f (stg i)) + f s1 := by
  rw [← sumTo_upd (j := m) stg s1 f h]
  congr 1
  refine sumTo_congr fun i _ => ?_
  unfold nxt upd
  split
  · rfl
  · exact hf _ _ _
theorem sum_le {f g : Nat → Nat} : ∀ {m : Nat}, (∀ i, i < m → f i ≤ g i) → sumTo m f ≤ sumTo m g
  | 0, _ => Nat.le_refl _
  | m + 1, h => Nat.add_le_add (sum_le fun i hi => h i (Nat.lt_succ_of_lt hi)) (h m (Nat.lt_succ_self m))
variable {c : Cfg}
def Phi (c : Cfg) (S : St) (m : Nat) : Nat := 4 * (c.N - S.nx) + S.bf.length + (sumTo m fun i => wgt (S.stg i)) + (if S.cl then stale S.v (S.stg (c.b + c.n)) else 0)
theorem Ari.vn {S : St} {m : Nat} (h : Ari c S m) : S.v ≤ c.n := by
  have h1 := h.vj
  have h2 := h.ph.1
  have : vC (S.stg 0) ≤ phv (S.stg 0) := by
    have := h.m0
    revert this
    cases S.stg 0 <;> simp [isM, vC, phv]
  omega
theorem Ari.worker {S S' : St} {m i : Nat} {s s1 : Stage} {wk : Bool} (h : Ari c S m) (hm : m = c.b + S.j + (if S.cl then 1 else 0)) (hi : i < S.j) (hs : S.stg (c.b + i) = s)
    (e1 : S'.stg = nxt S.stg (c.b + i) s1 wk S.shut) (e2 : S'.j = S.j) (e3 : S'.cl = S.cl) (e4 : S'.shut = S.shut) (w1 : isW s1 = true)
    (hv : S'.v + vC s = S.v + vC s1) (hl : lC s1 ≤ lC s) (hnx : S'.nx + lC s1 ≤ S.nx + lC s ∨ S'.nx ≤ c.N) (hle : S.nx ≤ S'.nx) (hvc : vC s1 ≤ vC s)
    (hcount : ∀ k, (S'.bf.map (·.1)).count k + kC k s1 + (if k < S.nx ∧ k < c.N then 1 else 0) = (S.bf.map (·.1)).count k + kC k s + (if k < S'.nx ∧ k < c.N then 1 else 0))
    (hlate : Pool.late s1 = true → c.N ≤ S'.nx)
    (hmode : ∀ ck w3 w3' x y x' y', (w3 = true → w3' = true) → (wk = true → ck = 1 → w3' = true) → x' + xC s = x + xC s1 → y' + yC s = y + yC s1 → ModeP S.cl ck w3 S.v S.wtg S.sm x y → ModeP S.cl ck w3' S'.v S'.wtg S'.sm x' y')
    (hpk : 0 < pC s1 → S'.bf.length = c.n ∧ S.shut = false) (hbf : S'.bf = S.bf ∨ (S'.bf.length = S.bf.length + 1 ∧ S.bf.length < c.n)) (hpm : isPk (S.stg 0) = true → S'.bf = []) : Ari c S' m := by
  have him : c.b + i < m := by rw [hm]; omega
  have sm : ∀ f : Stage → Nat, (∀ wk sh s, f (wake wk sh s) = f s) → (sumTo m fun i => f (S'.stg i)) + f s = (sumTo m fun i => f (S.stg i)) + f s1 := fun f hf => by
    have := sum_nxt f hf S.stg s1 wk S.shut him
    rw [e1, ← hs]
    exact this
  have h0 : S'.stg 0 = wake wk S.shut (S.stg 0) := by rw [e1, nxt_ne _ _ _ _ (by have := h.b; omega)]
  have hn : S.cl = true → S'.stg (c.b + c.n) = wake wk S.shut (S.stg (c.b + c.n)) := fun e => by rw [e1, nxt_ne _ _ _ _ (by have := (h.cs e).1; omega)]
  have hw : ∀ i', i' ≠ i → S'.stg (c.b + i') = wake wk S.shut (S.stg (c.b + i')) := fun i' e => by rw [e1, nxt_ne _ _ _ _ (by omega)]
  have hwi : S'.stg (c.b + i) = s1 := by rw [e1, nxt_self]
  refine ⟨by rw [e2]; exact h.j, h.b, by rw [h0, isM_wake]; exact h.m0, fun i' hi' => ?_, fun e => ?_, fun i' h1 h2 => ?_, ?_, ?_, ?_, ?_, ?_, fun k => ?_, fun i' hi' hl' => ?_, ?_, ?_, fun hp => ?_, fun hp => ?_⟩
  · by_cases e : i' = i
    · subst e; rw [hwi]; exact w1
    · rw [hw i' e, isW_wake]; exact h.wk i' (e2 ▸ hi')
  · rw [e3] at e
    rw [hn e, isC_wake, e2]
    exact h.cs e
  · rw [e1, nxt_ne _ _ _ _ (by omega), isQ_wake]
    exact h.old i' h1 h2
  · rw [h0, phv_wake, isRv_wake, e2, e3]; exact h.ph
  · have := sm vC vC_wake
    have := h.v
    omega
  · have := sm lC lC_wake
    have := h.nx
    have := h.lj
    rw [e2]
    omega
  · have := sm lC lC_wake
    have := h.lj
    rw [e2]
    omega
  · rw [e2, h0, vC_wake]
    have := h.vj
    omega
  · have := sm (kC k) (fun a b s => kC_wake a b s k)
    have := h.count k
    have := hcount k
    rw [h0, rsOf_wake]
    omega
  · rw [e2] at hi'
    by_cases e : i' = i
    · subst e; rw [hwi] at hl'; exact hlate hl'
    · rw [hw i' e, late_wake] at hl'
      exact Nat.le_trans (h.lates i' hi' hl') hle
  · have k1 := sm xC xC_wake
    have k2 := sm yC yC_wake
    have hmm := h.mode
    rw [e3]
    cases hcl : S.cl with
    | false =>
      rw [hcl] at hmm hmode
      have : ModeP false 0 false S.v S.wtg S.sm (sumTo m fun i => xC (S.stg i)) (sumTo m fun i => yC (S.stg i)) := by
        unfold ModeP at hmm ⊢
        simp at hmm ⊢
        omega
      have := hmode 0 false false _ _ _ _ id (fun _ e => by cases e) k1 k2 this
      unfold ModeP at this ⊢
      simp at this ⊢
      omega
    | true =>
      rw [hcl] at hmm hmode
      rw [hn hcl, cK_wake]
      exact hmode _ _ _ _ _ _ _ (isW3_wake wk S.shut _) (fun e1 e2 => by subst e1; revert e2; cases S.stg (c.b + c.n) <;> simp [cK, wake, isW3]) k1 k2 hmm
  · rw [e4, e3]
    cases hcl : S.cl with
    | false => have := h.shut; rw [hcl] at this; simpa using this
    | true => rw [hn hcl, isQ_wake]; have := h.shut; rw [hcl] at this; exact this
  · have := sm pC pC_wake
    rw [e4]
    by_cases hp1 : 0 < pC s1
    · exact hpk hp1
    · obtain ⟨q1, q2⟩ := h.pkw (by omega)
      rcases hbf with e | ⟨_, e⟩
      · rw [e]; exact ⟨q1, q2⟩
      · omega
  · rw [h0] at hp
    have := isPk_wake _ _ _ hp
    rw [e4]
    exact ⟨hpm this, (h.pkm this).2⟩
theorem Ari.closer {S S' : St} {m : Nat} {s s1 : Stage} {wk sh : Bool} (h : Ari c S m) (hm : m = c.b + S.j + (if S.cl then 1 else 0)) (hcl : S.cl = true) (hs : S.stg (c.b + c.n) = s)
    (e1 : S'.stg = nxt S.stg (c.b + c.n) s1 wk sh) (e2 : S'.j = S.j) (e3 : S'.cl = S.cl) (c1 : isC s1 = true) (e5 : S'.v = S.v) (e6 : S'.nx = S.nx) (e7 : S'.bf = S.bf)
    (zs : vC s = 0 ∧ lC s = 0 ∧ xC s = 0 ∧ yC s = 0 ∧ pC s = 0 ∧ ∀ k, kC k s = 0)
    (z1 : vC s1 = 0 ∧ lC s1 = 0 ∧ xC s1 = 0 ∧ yC s1 = 0 ∧ pC s1 = 0 ∧ ∀ k, kC k s1 = 0)
    (hmode : ∀ x y, ModeP true (cK s) (isW3 s) S.v S.wtg S.sm x y → ModeP true (cK s1) (isW3 s1) S.v S'.wtg S'.sm x y)
    (hsh : S'.shut = true ↔ isQ s1 = true) (hpk : 0 < (sumTo m fun i => pC (S.stg i)) → S'.shut = false) (hpm : isPk (wake wk sh (S.stg 0)) = true → S'.shut = false) : Ari c S' m := by
  have hj := (h.cs hcl).1
  have him : c.b + c.n < m := by rw [hm, hcl, hj]; simp
  have sm : ∀ f : Stage → Nat, (∀ wk sh s, f (wake wk sh s) = f s) → (sumTo m fun i => f (S'.stg i)) + f s = (sumTo m fun i => f (S.stg i)) + f s1 := fun f hf => by
    have := sum_nxt f hf S.stg s1 wk sh him
    rw [e1, ← hs]
    exact this
  have hb := h.b
  have h0 : S'.stg 0 = wake wk sh (S.stg 0) := by rw [e1, nxt_ne _ _ _ _ (by omega)]
  have hn : S'.stg (c.b + c.n) = s1 := by rw [e1, nxt_self]
  have hw : ∀ i', i' < S.j → S'.stg (c.b + i') = wake wk sh (S.stg (c.b + i')) := fun i' e => by rw [e1, nxt_ne _ _ _ _ (by omega)]
  obtain ⟨y1, y2, y3, y4, y5, y6⟩ := zs
  obtain ⟨u1, u2, u3, u4, u5, u6⟩ := z1
  refine ⟨by rw [e2]; exact h.j, h.b, by rw [h0, isM_wake]; exact h.m0, fun i' hi' => ?_, fun e => ?_, fun i' h1 h2 => ?_, ?_, ?_, ?_, ?_, ?_, fun k => ?_, fun i' hi' hl' => ?_, ?_, ?_, fun hp => ?_, fun hp => ?_⟩
  · rw [e2] at hi'; rw [hw i' hi', isW_wake]; exact h.wk i' hi'
  · rw [hn, e2]; exact ⟨hj, c1⟩
  · rw [e1, nxt_ne _ _ _ _ (by omega), isQ_wake]
    exact h.old i' h1 h2
  · rw [h0, phv_wake, isRv_wake, e2, e3]; exact h.ph
  · have := sm vC vC_wake
    have := h.v
    omega
  · have := sm lC lC_wake
    have := h.nx
    rw [e2, e6]
    omega
  · have := sm lC lC_wake
    have := h.lj
    rw [e2]
    omega
  · rw [e5, e2, h0, vC_wake]; exact h.vj
  · have := sm (kC k) (fun a b s => kC_wake a b s k)
    have := h.count k
    have := y6 k
    have := u6 k
    rw [h0, rsOf_wake, e6, e7]
    omega
  · rw [e2] at hi'
    rw [hw i' hi', late_wake] at hl'
    rw [e6]
    exact h.lates i' hi' hl'
  · have k1 := sm xC xC_wake
    have k2 := sm yC yC_wake
    have hmm := h.mode
    rw [hcl, hs] at hmm
    rw [e3, hcl, hn, e5, show (sumTo m fun i => xC (S'.stg i)) = sumTo m fun i => xC (S.stg i) by omega, show (sumTo m fun i => yC (S'.stg i)) = sumTo m fun i => yC (S.stg i) by omega]
    exact hmode _ _ hmm
  · rw [e3, hcl, hn]; simpa using hsh
  · have := sm pC pC_wake
    rw [e7]
    exact ⟨(h.pkw (by omega)).1, hpk (by omega)⟩
  · rw [h0] at hp
    rw [e7]
    exact ⟨(h.pkm (isPk_wake _ _ _ hp)).1, hpm hp⟩
theorem Ari.same {S S' : St} {m : Nat} (h : Ari c S m) (e1 : ∀ i, ∃ wk, S'.stg i = wake wk S.shut (S.stg i)) (e2 : S'.j = S.j) (e3 : S'.cl = S.cl) (e4 : S'.shut = S.shut) (e5 : S'.v = S.v) (e6 : S'.nx = S.nx) (e7 : S'.bf = S.bf) (e8 : S'.wtg = S.wtg) (e9 : S'.sm = S.sm) : Ari c S' m := by
  have f1 : ∀ {α : Type} (f : Stage → α), (∀ wk sh s, f (wake wk sh s) = f s) → ∀ i, f (S'.stg i) = f (S.stg i) := fun f hf i => by
    obtain ⟨wk, e⟩ := e1 i
    rw [e, hf]
  have sm : ∀ f : Stage → Nat, (∀ wk sh s, f (wake wk sh s) = f s) → (sumTo m fun i => f (S'.stg i)) = sumTo m fun i => f (S.stg i) := fun f hf => sumTo_congr fun i _ => f1 f hf i
  refine ⟨by rw [e2]; exact h.j, h.b, by rw [f1 isM isM_wake]; exact h.m0, fun i hi => by rw [f1 isW isW_wake]; exact h.wk i (e2 ▸ hi), fun e => by rw [f1 isC isC_wake, e2]; exact h.cs (e3 ▸ e), fun i h1 h2 => by rw [f1 isQ isQ_wake]; exact h.old i h1 h2,
    by rw [f1 phv phv_wake, f1 isRv isRv_wake, e2, e3]; exact h.ph, by rw [sm vC vC_wake, e5]; exact h.v, by rw [sm lC lC_wake, e2, e6]; exact h.nx, by rw [sm lC lC_wake, e2]; exact h.lj, by rw [e5, e2, f1 vC vC_wake]; exact h.vj,
    fun k => by rw [sm (kC k) (fun a b s => kC_wake a b s k), f1 rsOf rsOf_wake, e6, e7]; exact h.count k, fun i hi hl => by rw [f1 Pool.late late_wake] at hl; rw [e6]; exact h.lates i (e2 ▸ hi) hl, ?_,
    by rw [f1 isQ isQ_wake, e3, e4]; exact h.shut, fun hp => by rw [sm pC pC_wake] at hp; rw [e4, e7]; exact h.pkw hp, fun hp => ?_⟩
  · have hm := h.mode
    rw [f1 cK cK_wake, sm xC xC_wake, sm yC yC_wake, e3, e5, e8, e9]
    have : isW3 (S.stg (c.b + c.n)) = true → isW3 (S'.stg (c.b + c.n)) = true := fun e => by
      obtain ⟨wk, e'⟩ := e1 (c.b + c.n)
      rw [e']
      exact isW3_wake _ _ _ e
    unfold ModeP at hm ⊢
    rcases hm with a | ⟨a1, a2, a3⟩ | a
    · exact .inl a
    · refine .inr (.inl ⟨a1, a2, a3.imp id fun ⟨b1, b2⟩ => ⟨b1, b2.imp id fun b3 => b3.imp id fun ⟨c1, c2, c3, c4, c5⟩ => ⟨c1, c2, c3, c4, this c5⟩⟩⟩)
    · exact .inr (.inr a)
  · obtain ⟨wk, e⟩ := e1 0
    rw [e] at hp
    rw [e4, e7]
    exact h.pkm (isPk_wake _ _ _ hp)
theorem Phi.same {S S' : St} {m : Nat} (h : Ari c S m) (e1 : ∀ i, ∃ wk, S'.stg i = wake wk S.shut (S.stg i)) (hM : ∀ i, i < m → isPk (S.stg i) = true → i = 0) (e3 : S'.cl = S.cl) (e5 : S'.v = S.v) (e6 : S'.nx = S.nx) (e7 : S'.bf = S.bf) : Phi c S' m = Phi c S m := by
  unfold Phi
  rw [e3, e5, e6, e7]
  have h1 : (sumTo m fun i => wgt (S'.stg i)) = sumTo m fun i => wgt (S.stg i) := sumTo_congr fun i hi => by
    obtain ⟨wk, e⟩ := e1 i
    rw [e]
    refine wgt_wake _ _ _ fun hp => ?_
    obtain rfl := hM i hi hp
    exact (h.pkm hp).2
  have h2 : stale S.v (S'.stg (c.b + c.n)) = stale S.v (S.stg (c.b + c.n)) := by
    obtain ⟨wk, e⟩ := e1 (c.b + c.n)
    rw [e, stale_wake]
  rw [h1, h2]
def ranks : Nat → (Nat → Rk) → List Rk
  | 0, _ => []
  | m + 1, f => f m :: ranks m f
inductive Dec : List Rk → List Rk → Prop
  | head {a b : Rk} {l : List Rk} : Rk.sub a b → Dec (a :: l) (b :: l)
  | tail {a : Rk} {l m : List Rk} : Dec l m → Dec (a :: l) (a :: m)
theorem Dec.acc : ∀ l : List Rk, Acc Dec l
  | [] => ⟨_, fun y h => nomatch h⟩
  | b :: l => by
    have key : ∀ b, Acc Rk.sub b → ∀ l, Acc Dec l → Acc Dec (b :: l) := by
      intro b hb
      induction hb with
      | intro b _ ihb =>
        intro l hl
        induction hl with
        | intro l hl ihl =>
          refine ⟨_, fun y h => ?_⟩
          cases h with
          | head hs => exact ihb _ hs l ⟨l, hl⟩
          | tail ht => exact ihl _ ht
    exact key b (Ren.Rk.acc b) l (Dec.acc l)
theorem ranks_congr {f g : Nat → Rk} : ∀ {m : Nat}, (∀ i, i < m → f i = g i) → ranks m f = ranks m g
  | 0, _ => rfl
  | m + 1, h => by simp only [ranks]; rw [h m (Nat.lt_succ_self m), ranks_congr fun i hi => h i (Nat.lt_succ_of_lt hi)]
theorem Dec.of {f : Nat → Rk} {i : Nat} {r : Rk} (hr : Rk.sub r (f i)) : ∀ {m : Nat}, i < m → Dec (ranks m (upd f i r)) (ranks m f)
  | 0, h => absurd h (by omega)
  | m + 1, h => by
    simp only [ranks]
    by_cases e : i = m
    · subst e
      rw [upd_same, ranks_congr (g := f) fun k hk => upd_ne f r (by omega)]
      exact .head hr
    · rw [upd_ne f r (by omega)]
      exact .tail (Dec.of hr (by omega))
def Mu : Type := Nat × (List Rk × Nat)
def Lt : Mu → Mu → Prop := Prod.Lex (· < ·) (Prod.Lex Dec (· < ·))
theorem Lt.wf : WellFounded Lt := (Prod.lex Nat.lt_wfRel (Prod.lex ⟨Dec, ⟨Dec.acc⟩⟩ Nat.lt_wfRel)).wf
def mu (c : Cfg) (S : St) (m : Nat) : Mu := (Phi c S m, (ranks m S.rk, if S.cl && isW3 (S.stg (c.b + c.n)) then 1 else 0))
theorem Lt.phi {S S' : St} {m m' : Nat} (h : Phi c S' m' < Phi c S m) : Lt (mu c S' m') (mu c S m) := .left _ _ h
theorem Lt.rank {S S' : St} {m : Nat} (h : Phi c S' m = Phi c S m) (hr : Dec (ranks m S'.rk) (ranks m S.rk)) : Lt (mu c S' m) (mu c S m) := by
  unfold mu
  rw [h]
  exact .right _ (.left _ _ hr)
theorem Lt.flag {S S' : St} {m : Nat} (h : Phi c S' m = Phi c S m) (hr : ranks m S'.rk = ranks m S.rk) (h0 : (S'.cl && isW3 (S'.stg (c.b + c.n))) = false) (h1 : (S.cl && isW3 (S.stg (c.b + c.n))) = true) : Lt (mu c S' m) (mu c S m) := by
  unfold mu
  rw [h, hr, h0, h1]
  exact .right _ (.right _ (by simp))
theorem sum_wgt {stg : Nat → Stage} {i0 m : Nat} (s1 : Stage) (wk sh : Bool) (h : i0 < m) (hp : ∀ i, i < m → isPk (stg i) = true → i ≠ i0 → sh = false) :
    (sumTo m fun i => wgt (nxt stg i0 s1 wk sh i)) + wgt (stg i0) = (sumTo m fun i => wgt (stg i)) + wgt s1 := by
  rw [← sumTo_upd (j := m) stg s1 wgt h]
  congr 1
  refine sumTo_congr fun i hi => ?_
  unfold nxt upd
  split
  · rfl
  · rename_i e
    exact wgt_wake _ _ _ fun hk => hp i hi hk e
end Pool
end Go.Proofs.YtdkpbobglogmoaaGreat
namespace Go.Proofs.YtdkpbobglogmoaaGreat
open Go Go.Conc
open Go.ConcR (KK wgBlock WgAt stA smA rd wr mk)
open Go.ConcN (sumTo upd sumTo_upd upd_ne upd_same sumTo_congr le_sumTo get_map_set get_map_set_same)
namespace Pool
open Ren (Loc.blk Rely Gt Gk Rk Terms Did EvO New With)
variable {c : Cfg} {Shun : Loc → Prop}
def St.to (S : St) (i0 : Nat) (s1 : Stage) (k1 : Rk) (own1 : Nat → Prop) (wk sh : Bool) : St :=
  { S with stg := nxt S.stg i0 s1 wk sh, rk := upd S.rk i0 k1, lay := { S.lay with own := upd S.lay.own i0 own1 } }
theorem Sits.go {S S' : St} {gs : Array Goroutine} {w w' : World} {t : Trace} {i0 : Nat} {g g' : Goroutine} {s1 : Stage} {k1 : Rk} {fn : FuncId} {pos : String} {es : Array Event} {buf : Array Value} {sh : Bool} {sn rn : Nat}
    (h : Sits c S gs w t) (hT : Tra c Shun S w t) (hg : gs[i0]? = some g) (k : Kept (c := c) S i0 w w') (hc : ChAt c w' buf sh sn rn) (hp : ∀ i, i < gs.size → pC (S.stg i) = 1 → sh = false)
    (e1 : S'.stg = nxt S.stg i0 s1 (wks c.P g g') sh) (e2 : S'.rk = upd S.rk i0 k1) (e3 : ∀ i, i ≠ i0 → S'.lay.own i = S.lay.own i) (e4 : S'.j = S.j) (e5 : S'.cl = S.cl)
    (ok : Ok c s1 k1 (deafBehind (Deaf t i0) es) (S'.lay.own i0) g' w') : Sits c S' ((gs.map (woken c.P g g' w')).setIfInBounds i0 g') w' (t ++ MemOp.ofEvents i0 fn pos es) := by
  have hlt : i0 < gs.size := (Array.getElem?_eq_some_iff.1 hg).1
  have hu : ∀ op ∈ MemOp.ofEvents i0 fn pos es, op.g = i0 := fun op hop => by obtain ⟨e, _, rfl⟩ := Go.Conc.mem_ofEvents hop; rfl
  refine ⟨fun i x hx => ?_, fun i hi => ?_, by rw [e4, e5]; simpa using h.size⟩
  · by_cases e : i = i0
    · subst e
      rw [get_map_set_same _ _ _ hlt] at hx
      cases hx
      rw [e1, nxt_self, e2, upd_same, Deaf_own]
      exact ok
    · rw [get_map_set _ _ _ _ (fun x => e x.symm)] at hx
      obtain ⟨y, hy, rfl⟩ := Option.map_eq_some_iff.1 hx
      rw [e1, nxt_ne _ _ _ _ e, e2, upd_ne _ _ e, Deaf_other t (fun x => e x.symm) _ hu, e3 i e]
      exact (h.sit i y hy).other (k.other hT e) hc (hp i (Array.getElem?_eq_some_iff.1 hy).1) g g'
  · have hi' : gs.size ≤ i := by simpa using hi
    rw [Deaf_other t (by omega) _ hu]
    exact h.above i hi'
theorem Tra.go {S S' : St} {w w' : World} {t : Trace} {i0 : Nat} {s1 : Stage} {wk sh : Bool} {fn : FuncId} {pos : String} {es : Array Event} {own1 : Nat → Prop}
    (h : Tra c Shun S w t) (hj : S.cl = true → S.j = c.n) (hz : 0 < c.b) (k : Kept (c := c) S i0 w w') (hi : (∀ e ∈ es, (MemAct.ofEvent e).touch? = none) ∨ i0 = 0 ∨ kid c S i0)
    (e1 : S'.stg = nxt S.stg i0 s1 wk sh) (e3 : S'.lay = { S.lay with own := upd S.lay.own i0 own1 }) (e4 : S'.j = S.j) (e5 : S'.cl = S.cl) (e6 : S'.s = S.s) (e7 : S'.r = S.r)
    (ho : ∀ b, own1 b → S.lay.own i0 b ∨ (New w w' b ∧ (i0 = 0 ∨ kid c S i0)))
    (hev : ∀ e ∈ es, (∀ x, (MemAct.ofEvent e).touch? = some x → OkT { S.lay with own := upd S.lay.own i0 (fun b => S.lay.own i0 b ∨ New w w' b) } (who c S) i0 x) ∧ (∀ a, e.loc ≠ .mark (.release a)) ∧ (MemAct.ofEvent e).low w'.heap.size)
    (hrel : ∀ i, i0 = c.b + i → i < S.j → out s1 = true → ∃ r, Rel c.Wg (t ++ MemOp.ofEvents i0 fn pos es) i0 r)
    (hacq : i0 = c.b + c.n → S.cl = true → isCL s1 = true → ∃ q, Acq c.Wg (t ++ MemOp.ofEvents i0 fn pos es) i0 q (wsOf c) ∧ (isQ s1 = true → ∃ p, Shut c.C (t ++ MemOp.ofEvents i0 fn pos es) i0 q p))
    (hq : S.cl = true → isCL (S.stg (c.b + c.n)) = true → wsOf c i0 → ∀ e ∈ es, (MemAct.ofEvent e).touch? = none) : Tra c Shun S' w' (t ++ MemOp.ofEvents i0 fn pos es) := by
  have hu : ∀ op ∈ MemOp.ofEvents i0 fn pos es, op.g = i0 := fun op hop => by obtain ⟨e, _, rfl⟩ := Go.Conc.mem_ofEvents hop; rfl
  have hkid : kid c S' = kid c S := by unfold kid; rw [e4, e5]
  have hwho : who c S' = who c S := by unfold who; rw [e5]
  have hnew : ∀ b, New w w' b → ∀ g, ¬ S.lay.own g b := fun b hb g ho => by have := (h.own g b ho).1; have := hb.1; omega
  have hnf : ∀ b, New w w' b → ∀ n, ¬ S.lay.fl n b := fun b hb n hf => by have := (h.fl n b hf).1; have := hb.1; omega
  have hnc : ∀ b, New w w' b → ¬ S.lay.Cold b := fun b hb hc => by have := h.coldLt b (h.cold ▸ hc); have := hb.1; omega
  have hns : ∀ b, New w w' b → ¬ S.lay.Sb b := fun b hb hc => by have := h.sbLt b (h.sb ▸ hc); have := hb.1; omega
  have big : ∀ g b, upd S.lay.own i0 (fun b => S.lay.own i0 b ∨ New w w' b) g b → S.lay.own g b ∨ (g = i0 ∧ New w w' b) := fun g b hb => by
    by_cases e : g = i0
    · subst e; rw [upd_same] at hb; exact hb.imp id fun x => ⟨rfl, x⟩
    · rw [upd_ne _ _ e] at hb; exact .inl hb
  have A1 : Lay.Apart { S.lay with own := upd S.lay.own i0 (fun b => S.lay.own i0 b ∨ New w w' b) } := by
    refine ⟨fun g g' b h1 h2 => ?_, fun g n b h1 h2 => ?_, fun g b h1 h2 => ?_, fun g b h1 h2 => ?_, h.ap.ff, h.ap.fc, h.ap.fs, h.ap.cs⟩
    · rcases big g b h1 with x1 | ⟨y1, x1⟩ <;> rcases big g' b h2 with x2 | ⟨y2, x2⟩
      · exact h.ap.oo g g' b x1 x2
      · exact absurd x1 (hnew b x2 g)
      · exact absurd x2 (hnew b x1 g')
      · rw [y1, y2]
    · rcases big g b h1 with x1 | ⟨y1, x1⟩
      · exact h.ap.of g n b x1 h2
      · exact hnf b x1 n h2
    · rcases big g b h1 with x1 | ⟨y1, x1⟩
      · exact h.ap.oc g b x1 h2
      · exact hnc b x1 h2
    · rcases big g b h1 with x1 | ⟨y1, x1⟩
      · exact h.ap.os g b x1 h2
      · exact hns b x1 h2
  have p1 : PT { S.lay with own := upd S.lay.own i0 (fun b => S.lay.own i0 b ∨ New w w' b) } c.C c.Wg Shun w'.heap.size (kid c S) (who c S) t :=
    h.pt.fresh k.size fun g b hb => (big g b hb).imp id fun x => x.2.1
  have p2 := p1.app (u := MemOp.ofEvents i0 fn pos es) A1 hu (hi.imp (fun x op hop => by obtain ⟨e, he, rfl⟩ := Go.Conc.mem_ofEvents hop; exact x e he) id)
    (fun op hop x hx => by obtain ⟨e, he, rfl⟩ := Go.Conc.mem_ofEvents hop; exact (hev e he).1 x hx) (fun op hop => by obtain ⟨e, he, rfl⟩ := Go.Conc.mem_ofEvents hop; exact (hev e he).2.2)
    (fun op hop e => by
      obtain ⟨ev, he, rfl⟩ := Go.Conc.mem_ofEvents hop
      exact (hev ev he).2.1 _ (Go.ConcR.loc_of_ofEvent e))
  have sml : ∀ g b, upd S.lay.own i0 own1 g b → upd S.lay.own i0 (fun b => S.lay.own i0 b ∨ New w w' b) g b := fun g b hb => by
    by_cases e : g = i0
    · subst e; rw [upd_same] at hb ⊢; exact (ho b hb).imp id fun x => x.1
    · rw [upd_ne _ _ e] at hb ⊢; exact hb
  have A2 : S'.lay.Apart := by
    rw [e3]
    exact ⟨fun g g' b h1 h2 => A1.oo g g' b (sml g b h1) (sml g' b h2), fun g n b h1 h2 => A1.of g n b (sml g b h1) h2, fun g b h1 h2 => A1.oc g b (sml g b h1) h2, fun g b h1 h2 => A1.os g b (sml g b h1) h2, h.ap.ff, h.ap.fc, h.ap.fs, h.ap.cs⟩
  refine ⟨A2, by rw [e3]; exact h.cold, by rw [e3]; exact h.sb, fun g b hb => ?_, fun n b hb => ?_, fun b hb => Nat.lt_of_lt_of_le (h.coldLt b hb) k.size, fun b hb => Nat.lt_of_lt_of_le (h.sbLt b hb) k.size, ?_, fun i hi' ho' => ?_, fun hcl hC => ?_⟩
  · have hb : upd S.lay.own i0 own1 g b := by rw [e3] at hb; exact hb
    rw [hkid]
    by_cases e : g = i0
    · subst e
      rw [upd_same] at hb
      rcases ho b hb with x | ⟨x, y⟩
      · exact ⟨Nat.lt_of_lt_of_le (h.own g b x).1 k.size, (h.own g b x).2⟩
      · exact ⟨x.2, y⟩
    · rw [upd_ne _ _ e] at hb
      exact ⟨Nat.lt_of_lt_of_le (h.own g b hb).1 k.size, (h.own g b hb).2⟩
  · rw [e3] at hb
    rw [e6, e7]
    exact ⟨Nat.lt_of_lt_of_le (h.fl n b hb).1 k.size, (h.fl n b hb).2⟩
  · rw [hkid, hwho, e3]
    exact p2.fresh (own' := upd S.lay.own i0 own1) (Nat.le_refl _) fun g b hb => .inl (sml g b hb)
  · rw [e4] at hi'
    by_cases e : c.b + i = i0
    · rw [e1, e, nxt_self] at ho'
      rw [e]
      exact hrel i e.symm hi' ho'
    · rw [e1, nxt_ne _ _ _ _ e, out_wake] at ho'
      obtain ⟨r, hr⟩ := h.rel i hi' ho'
      exact ⟨r, hr.other hu (fun x => e x.symm)⟩
  · rw [e5] at hcl
    by_cases e : c.b + c.n = i0
    · rw [e1, e, nxt_self] at hC
      rw [e1, e, nxt_self]
      exact hacq e.symm hcl hC
    · rw [e1, nxt_ne _ _ _ _ e] at hC ⊢
      rw [isCL_wake] at hC
      rw [isQ_wake]
      obtain ⟨q, hA, hS⟩ := h.acq hcl hC
      refine ⟨q, ⟨?_, g?_app hA.by_, ?_, fun g hg => ?_⟩, fun hQ => ?_⟩
      · rw [act?_old (lt_of_act? hA.act)]; exact hA.act
      · exact (heard_old (lt_of_act? hA.act)).2 hA.heard
      · obtain ⟨r, hr, hrq⟩ := hA.all g hg
        refine ⟨r, ?_, hrq⟩
        by_cases eg : g = i0
        · subst eg
          exact hr.none fun op hop => by obtain ⟨ev, he, rfl⟩ := Go.Conc.mem_ofEvents hop; exact hq hcl hC hg ev he
        · exact hr.other hu (fun x => eg x.symm)
      · obtain ⟨p, hP⟩ := hS hQ
        have hp := lt_of_act? hP.act
        refine ⟨p, ?_, g?_app hP.by_, (heard_old hp).2 hP.heard, hP.lt, fun i hi1 hi2 => ?_⟩
        · rw [act?_old hp]; exact hP.act
        · rcases g?_cases hi2 with ⟨hlt, hg'⟩ | ⟨_, op, hop, _, hg'⟩
          · rw [touchAt_old hlt]; exact hP.after i hi1 hg'
          · exact absurd ((hu op hop).symm.trans hg').symm e
structure Laws (c : Cfg) : Prop where
  item : ∀ k v F w w1, Rely c.Cold c.Liv F w w1 → c.Item k v F w → c.Item k v F w1
  lp : ∀ g w, c.Lp g w → Gt c.Tw (AtFetch c) 0 None g w
  mp : ∀ rs O g w, c.Mp rs O g w → Gt c.Tr (AtRecv c rs) 0 O g w
  chc : ∀ g w, c.ChC g w → Gt c.Tc (AtW1 c) 0 None g w
  anc : ∀ g w, c.Anc g w → Gt c.Tc (AtW1 c) 1 None g w
  n1 : 1 ≤ c.n
  n2 : c.n < 2147483647
  N : c.N + c.n < 4611686018427387904
theorem Hea.kept {S S' : St} {w w' : World} {t : Trace} {i0 : Nat} (L : Laws c) (h : Hea c S w) (hT : Tra c Shun S w t) (k : Kept (c := c) S i0 w w') (hs : ∀ b, c.Sb b → w'.heap[b]? = w.heap[b]?)
    (e1 : S'.lay.fl = S.lay.fl) (e2 : S'.v = S.v ∧ S'.wtg = S.wtg ∧ S'.sm = S.sm) (e3 : S'.nx = S.nx) (e4 : S'.bf = S.bf ∧ S'.s = S.s ∧ S'.r = S.r ∧ S'.shut = S.shut) : Hea c S' w' := by
  obtain ⟨a1, a2, a3⟩ := e2
  obtain ⟨b1, b2, b3, b4⟩ := e4
  refine ⟨?_, ?_, ?_, fun i n v hi => ?_, by rw [b1, b2, b3]; exact h.len, by rw [b1]; exact h.room⟩
  · rw [a1, a2, a3]; exact (hs _ (.inl rfl)).trans h.wg
  · rw [e3]; exact (hs _ (.inr (.inl rfl))).trans h.ct
  · rw [b1, b2, b3, b4]; exact (hs _ (.inr (.inr rfl))).trans h.ch
  · rw [e1, b3]
    rw [b1] at hi
    exact L.item _ _ _ _ _ (k.fly hT) (h.items i n v hi)
theorem Hea.liv {S : St} {w : World} (h : Hea c S w) : c.Liv w := ⟨⟨_, _, h.wg⟩, ⟨_, h.ct⟩, _, _, _, _, h.ch⟩
theorem Inv.pks {S : St} {gs : Array Goroutine} {w : World} {t : Trace} (h : Inv c Shun S gs w t) : ∀ i, i < gs.size → isPk (S.stg i) = true → i = 0 := by
  intro i hi hp
  have hsz := h.sits.size
  have A := h.ari
  rcases Nat.eq_zero_or_pos i with e | e
  · exact e
  · exfalso
    have key : isM (S.stg i) = false := by
      rcases Nat.lt_or_ge i c.b with h1 | h1
      · have := A.old i e h1
        revert this; cases S.stg i <;> simp [isQ, isM]
      · rcases Nat.lt_or_ge i (c.b + S.j) with h2 | h2
        · have := A.wk (i - c.b) (by omega)
          rw [show c.b + (i - c.b) = i by omega] at this
          revert this; cases S.stg i <;> simp [isW, isM]
        · cases hcl : S.cl with
          | false => rw [hcl] at hsz; simp at hsz; omega
          | true =>
            rw [hcl] at hsz
            obtain ⟨hj, hc⟩ := A.cs hcl
            simp at hsz
            rw [show c.b + c.n = i by omega] at hc
            revert hc; cases S.stg i <;> simp [isC, isM]
    revert key hp; cases S.stg i <;> simp [isPk, isM]
theorem Inv.pcs {S : St} {gs : Array Goroutine} {w : World} {t : Trace} (h : Inv c Shun S gs w t) : ∀ i, i < gs.size → pC (S.stg i) = 1 → S.shut = false := fun i hi hp =>
  (h.ari.pkw (Nat.lt_of_lt_of_le (by rw [hp]; exact Nat.one_pos) (le_sumTo (f := fun i => pC (S.stg i)) hi))).2
theorem Inv.kids {S : St} {gs : Array Goroutine} {w : World} {t : Trace} (h : Inv c Shun S gs w t) {i : Nat} (hi : i < gs.size) : i = 0 ∨ (0 < i ∧ i < c.b) ∨ kid c S i := by
  have := h.sits.size
  unfold kid
  omega
theorem priv {S : St} {gs : Array Goroutine} {w : World} {sl : Option (Nat × Nat)} {t : Trace} {i0 : Nat} {g : Goroutine} {T : Terms} {Stop : Stp} {f : World → Rk} (L : Laws c) (h : Inv c Shun S gs w t) (hg : gs[i0]? = some g)
    (hT : T.P = c.P) (hM : T.main = (i0 == 0)) (hC : ∀ b, T.Cold b → c.Cold b) (hL : T.Liv = c.Liv) (hS : ∀ b, T.Say b → b = c.Wg ∧ who c S = i0) (hi : i0 = 0 ∨ kid c S i0)
    (hG : Gk T Stop (.node f) (Deaf t i0) (S.lay.own i0) g w) (conv : ∀ k' d' O' g' w', Gk T Stop k' d' O' g' w' → (out (S.stg i0) = true → ∀ b, ¬ O' b) → Ok c (S.stg i0) k' d' O' g' w')
    (ho : out (S.stg i0) = true → T.Calm ∧ (∀ b, ¬ S.lay.own i0 b) ∧ (∀ b, ¬ T.Cold b) ∧ ∀ b, ¬ T.Say b) (hcl : i0 = c.b + c.n → S.cl = true → isQ (S.stg i0) = false) (hrk : S.rk i0 = .node f) :
    ∃ S' gs' w' ops, runT c.P (crowd gs w sl) i0 = (.next (crowd gs' w' sl), ops) ∧ Inv c Shun S' gs' w' (t ++ ops) ∧ Lt (mu c S' gs'.size) (mu c S gs.size) := by
  cases hG with
  | step h1 h2 h3 =>
    obtain ⟨g', w', es, e, dd, lv, cm, _⟩ := h2 w (Rely.refl w)
    have h4 := h3 w g' w' es (Rely.refl w) e
    rw [hT, hM] at e
    rw [hL] at lv
    have hlt : i0 < gs.size := (Array.getElem?_eq_some_iff.1 hg).1
    have hT2 := h.tra
    have kp : Kept (c := c) S i0 w w' := ⟨dd.size, fun b hb ho' _ => dd.kept b hb ho', dd.rest.2, lv⟩
    have hsb : ∀ b, c.Sb b → w'.heap[b]? = w.heap[b]? := fun b hb => dd.kept b (hT2.sbLt b hb) fun ho' => hT2.ap.os i0 b ho' (hT2.sb ▸ hb)
    have hch : ChAt c w' (S.bf.map (·.2)).toArray S.shut S.s S.r := (hsb _ (.inr (.inr rfl))).trans h.hea.ch
    have nw : out (S.stg i0) = true → ∀ b, ¬ With (S.lay.own i0) w w' b := fun o b hb => by
      obtain ⟨q1, q2, _⟩ := ho o
      rcases hb with hb | hb
      · exact q2 b hb
      · have := cm q1
        have := hb.1
        have := hb.2
        omega
    let S' : St := S.to i0 (S.stg i0) (f w) (With (S.lay.own i0) w w') (wks c.P g g') S.shut
    have hst : ∀ i, ∃ wk, S'.stg i = wake wk S.shut (S.stg i) := fun i => by
      show ∃ wk, nxt S.stg i0 (S.stg i0) (wks c.P g g') S.shut i = _
      by_cases e : i = i0
      · subst e; exact ⟨false, by rw [nxt_self]; rfl⟩
      · exact ⟨_, nxt_ne _ _ _ _ e⟩
    have okT : ∀ e ∈ es, ∀ x, (MemAct.ofEvent e).touch? = some x → OkT { S.lay with own := upd S.lay.own i0 (fun b => S.lay.own i0 b ∨ New w w' b) } (who c S) i0 x := fun ev he x hx => by
      obtain ⟨b, hb, hcase⟩ := (dd.evs ev he).touch x hx
      refine ⟨b, hb, ?_⟩
      rcases hcase with q | ⟨q1, q2⟩ | ⟨q1, q2⟩
      · refine .inl ?_
        show upd S.lay.own i0 _ i0 b
        rw [upd_same]; exact q
      · exact .inr (.inl ⟨hT2.cold ▸ hC b q1, q2⟩)
      · obtain ⟨r1, r2⟩ := hS b q1
        exact .inr (.inr (.inr ⟨hT2.sb ▸ .inl r1, q2, r2⟩))
    have noT : out (S.stg i0) = true → ∀ e ∈ es, (MemAct.ofEvent e).touch? = none := fun o ev he => by
      cases hx : (MemAct.ofEvent ev).touch? with
      | none => rfl
      | some x =>
        obtain ⟨b, hb, hcase⟩ := (dd.evs ev he).touch x hx
        obtain ⟨_, _, q3, q4⟩ := ho o
        rcases hcase with q | ⟨q1, _⟩ | ⟨q1, _⟩
        · exact absurd q (nw o b)
        · exact absurd q1 (q3 b)
        · exact absurd q1 (q4 b)
    refine ⟨S', _, w', _, runT_crowd_go hg e, ⟨?_, ?_, ?_, ?_⟩, ?_⟩
    · refine h.sits.go (S' := S') hT2 hg kp hch h.pcs rfl rfl (fun i hi => ?_) rfl rfl (k1 := f w) ?_
      · show upd S.lay.own i0 _ i = _
        rw [upd_ne _ _ hi]
      · show Ok c _ _ _ (upd S.lay.own i0 _ i0) _ _
        rw [upd_same]
        exact conv _ _ _ _ _ h4 nw
    · refine hT2.go (S' := S') (s1 := S.stg i0) (own1 := With (S.lay.own i0) w w') (fun e => (h.ari.cs e).1) h.ari.b kp (.inr hi) rfl rfl rfl rfl rfl rfl (fun b hb => hb.imp id fun x => ⟨x, hi⟩) (fun ev he => ⟨okT ev he, (dd.evs ev he).still, (dd.evs ev he).low⟩) ?_ ?_ ?_
      · rintro i rfl hj o
        obtain ⟨r, hr⟩ := hT2.rel i hj o
        exact ⟨r, hr.none fun op hop => by obtain ⟨ev, he, rfl⟩ := Go.Conc.mem_ofEvents hop; exact noT o ev he⟩
      · rintro rfl e2 hCL
        obtain ⟨q, hA, hSh⟩ := hT2.acq e2 hCL
        have hu : ∀ op ∈ MemOp.ofEvents (c.b + c.n) g.frame.fn g.frame.place es, op.g = c.b + c.n := fun op hop => by obtain ⟨e, _, rfl⟩ := Go.Conc.mem_ofEvents hop; rfl
        refine ⟨q, ⟨?_, g?_app hA.by_, (heard_old (lt_of_act? hA.act)).2 hA.heard, fun x hx => ?_⟩, fun hQ => ?_⟩
        · rw [act?_old (lt_of_act? hA.act)]; exact hA.act
        · obtain ⟨r, hr, hrq⟩ := hA.all x hx
          exact ⟨r, hr.other hu (by unfold wsOf at hx; omega), hrq⟩
        · rw [hcl rfl e2] at hQ; cases hQ
      · intro e2 hCL hw ev he
        have hj := (h.ari.cs e2).1
        have hm := h.ari.mode
        have hout : out (S.stg i0) = true := by
          have hck : cK (S.stg (c.b + c.n)) = 2 := by revert hCL; cases S.stg (c.b + c.n) <;> simp [isCL, cK]
          rw [e2, hck] at hm
          unfold ModeP at hm
          simp at hm
          obtain ⟨m1, _, _, m2, m3⟩ := hm
          have hv := h.ari.v
          rw [m1] at hv
          have b1 := le_sumTo (f := fun i => vC (S.stg i)) hlt
          have hwi := h.ari.wk (i0 - c.b) (by unfold wsOf at hw; omega)
          rw [show c.b + (i0 - c.b) = i0 by unfold wsOf at hw; omega] at hwi
          have : vC (S.stg i0) = 0 := by have : vC (S.stg i0) ≤ sumTo gs.size fun i => vC (S.stg i) := b1; omega
          revert this hwi; cases S.stg i0 <;> simp [vC, isW, out]
        exact noT hout ev he
    · exact h.hea.kept (S' := S') L hT2 kp hsb rfl ⟨rfl, rfl, rfl⟩ rfl ⟨rfl, rfl, rfl, rfl⟩
    · rw [show ((gs.map (woken c.P g g' w')).setIfInBounds i0 g').size = gs.size by simp]
      exact h.ari.same hst rfl rfl rfl rfl rfl rfl rfl rfl
    · rw [show ((gs.map (woken c.P g g' w')).setIfInBounds i0 g').size = gs.size by simp]
      refine Lt.rank (Phi.same h.ari hst h.pks rfl rfl rfl rfl) ?_
      show Dec (ranks gs.size (upd S.rk i0 (f w))) _
      exact Dec.of (by rw [hrk]; exact ⟨w, rfl⟩) hlt
theorem quit {S : St} {gs : Array Goroutine} {w : World} {sl : Option (Nat × Nat)} {t : Trace} {i0 : Nat} {g : Goroutine} (L : Laws c) (h : Inv c Shun S gs w t) (hg : gs[i0]? = some g) (h0 : i0 ≠ 0) (hs : S.stg i0 = .Q) (hrun : g.status = .running) :
    ∃ S' gs' w' ops, runT c.P (crowd gs w sl) i0 = (.next (crowd gs' w' sl), ops) ∧ Inv c Shun S' gs' w' (t ++ ops) ∧ Lt (mu c S' gs'.size) (mu c S gs.size) := by
  have ok := h.sits.sit i0 g hg
  rw [hs] at ok
  obtain ⟨q, hk, hq⟩ := ok
  have hlt : i0 < gs.size := (Array.getElem?_eq_some_iff.1 hg).1
  cases q with
  | zero => rw [hq.1] at hrun; cases hrun
  | succ q =>
    rcases hq with ⟨hf, _⟩ | ⟨_, g', es, hm, hstp, hq'⟩
    · rw [hf] at hrun; cases hrun
    have hT2 := h.tra
    have e : stepG c.P (i0 == 0) g w = .go g' w es := by
      rw [show (i0 == 0) = false by simp; exact h0]
      exact hstp w
    have kp : Kept (c := c) S i0 w w := ⟨Nat.le_refl _, fun _ _ _ _ => rfl, ⟨rfl, rfl⟩, id⟩
    let S' : St := S.to i0 .Q (chain q) (S.lay.own i0) (wks c.P g g') S.shut
    have hst : ∀ i, ∃ wk, S'.stg i = wake wk S.shut (S.stg i) := fun i => by
      show ∃ wk, nxt S.stg i0 .Q (wks c.P g g') S.shut i = _
      by_cases e : i = i0
      · subst e; exact ⟨false, by rw [nxt_self, hs]; rfl⟩
      · exact ⟨_, nxt_ne _ _ _ _ e⟩
    have noT : ∀ e ∈ es, (MemAct.ofEvent e).touch? = none := fun ev he => touch_mute (hm ev he)
    have hu : ∀ op ∈ MemOp.ofEvents i0 g.frame.fn g.frame.place es, op.g = i0 := fun op hop => by obtain ⟨e, _, rfl⟩ := Go.Conc.mem_ofEvents hop; rfl
    refine ⟨S', _, w, _, runT_crowd_go hg e, ⟨?_, ?_, ?_, ?_⟩, ?_⟩
    · refine h.sits.go (S' := S') hT2 hg kp h.hea.ch h.pcs rfl rfl (fun i hi => ?_) rfl rfl (k1 := chain q) ⟨q, rfl, hq'⟩
      show upd S.lay.own i0 _ i = _
      rw [upd_ne _ _ hi]
    · refine hT2.go (S' := S') (s1 := .Q) (own1 := S.lay.own i0) (fun e => (h.ari.cs e).1) h.ari.b kp (.inl noT) rfl rfl rfl rfl rfl rfl (fun b hb => .inl hb) (fun ev he => ⟨fun x hx => (by rw [noT ev he] at hx; cases hx), fun a e => ?_, low_mute (hm ev he) _⟩) ?_ ?_ fun _ _ _ => noT
      · have := hm ev he
        obtain ⟨l, a1, a2⟩ := ev
        simp only at e
        subst e
        simp [Event.mute] at this
      · rintro i rfl hj _
        obtain ⟨r, hr⟩ := hT2.rel i hj (by rw [hs]; rfl)
        exact ⟨r, hr.none fun op hop => by obtain ⟨ev, he, rfl⟩ := Go.Conc.mem_ofEvents hop; exact noT ev he⟩
      · rintro rfl e2 hCL
        obtain ⟨q, hA, hSh⟩ := hT2.acq e2 (by rw [hs]; rfl)
        refine ⟨q, ⟨?_, g?_app hA.by_, (heard_old (lt_of_act? hA.act)).2 hA.heard, fun x hx => ?_⟩, fun hQ => ?_⟩
        · rw [act?_old (lt_of_act? hA.act)]; exact hA.act
        · obtain ⟨r, hr, hrq⟩ := hA.all x hx
          exact ⟨r, hr.other hu (by unfold wsOf at hx; omega), hrq⟩
        · obtain ⟨p, hP⟩ := hSh (by rw [hs]; rfl)
          have hp := lt_of_act? hP.act
          refine ⟨p, ?_, g?_app hP.by_, (heard_old hp).2 hP.heard, hP.lt, fun i hi1 hi2 => ?_⟩
          · rw [act?_old hp]; exact hP.act
          · rcases g?_cases hi2 with ⟨hlt', hg'⟩ | ⟨_, op, hop, hx, _⟩
            · rw [touchAt_old hlt']; exact hP.after i hi1 hg'
            · rw [touchAt_of hx]
              obtain ⟨ev, he, rfl⟩ := Go.Conc.mem_ofEvents hop
              exact noT ev he
    · exact h.hea.kept (S' := S') L hT2 kp (fun _ _ => rfl) rfl ⟨rfl, rfl, rfl⟩ rfl ⟨rfl, rfl, rfl, rfl⟩
    · rw [show ((gs.map (woken c.P g g' w)).setIfInBounds i0 g').size = gs.size by simp]
      exact h.ari.same hst rfl rfl rfl rfl rfl rfl rfl rfl
    · rw [show ((gs.map (woken c.P g g' w)).setIfInBounds i0 g').size = gs.size by simp]
      refine Lt.rank (Phi.same h.ari hst h.pks rfl rfl rfl rfl) ?_
      show Dec (ranks gs.size (upd S.rk i0 (chain q))) _
      exact Dec.of (by rw [hk]; exact ⟨w, rfl⟩) hlt
end Pool
end Go.Proofs.YtdkpbobglogmoaaGreat
