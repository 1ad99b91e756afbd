/- Parts of the proof of TopCommandsProof: PoolCom PoolCom2 PoolCom3. -/
import Derived.Test.YtdkpbobglogmoaaGreatTk17
set_option linter.unusedVariables false
set_option linter.unusedSimpArgs false
set_option maxRecDepth 100000
set_option maxHeartbeats 32000000
namespace Go.Proofs.YtdkpbobglogmoaaGreat
open Go Go.Conc
open Go.ConcR (KK wgBlock WgAt stA smA rd wr mk)
open Go.ConcN (sumTo upd sumTo_upd upd_ne upd_same sumTo_congr le_sumTo)
namespace Pool
open Ren (Loc.blk Rely Gt Gk Rk Terms Did EvO New With)
variable {c : Cfg} {Shun : Loc → Prop}
def Still (op : MemOp) : Prop := op.act.touch? = none ∧ ∀ m, op.act ≠ .mark m
theorem Deaf_still {t u : Trace} (hu : ∀ op ∈ u, Still op) (g : Nat) : Deaf (t ++ u) g = Deaf t g := by
  have e := Deaf_append t g u.toList
  simp only [Array.toArray_toList] at e
  rw [e]
  have key : ∀ (l : List MemOp) d, (∀ op ∈ l, Still op) → l.foldl (deafStep g) d = d := by
    intro l
    induction l with
    | nil => intro d _; rfl
    | cons x l ih =>
      intro d hl
      rw [List.foldl_cons]
      have hx : deafStep g d x = d := by
        have hx := (hl x (by simp)).2
        unfold deafStep
        obtain ⟨a1, a2, a3, a4⟩ := x
        cases a4 with
        | mark m => exact absurd rfl (hx m)
        | _ => rfl
      rw [hx]
      exact ih d fun op hop => hl op (by simp [hop])
  exact key u.toList _ fun op hop => hu op (by simpa using hop)
structure OnC (c : Cfg) (w w' : World) : Prop where
  size : w'.heap.size = w.heap.size
  kept : ∀ b, b ≠ c.C → w'.heap[b]? = w.heap[b]?
  rest : w'.os = w.os ∧ w'.output = w.output
theorem OnC.chan (c : Cfg) (w : World) (d : Nat) (buf : Array Value) (cl : Bool) (s r : Nat) : OnC c w ((w.at d).setChan c.C c.n buf cl s r false) :=
  ⟨by simp [World.setChan, World.at], fun b hb => by
    show (w.heap.setIfInBounds c.C _)[b]? = _
    rw [Array.getElem?_setIfInBounds_ne (fun e => hb e.symm)], rfl, rfl⟩
theorem OnC.at_ (c : Cfg) (w : World) (d : Nat) (buf : Array Value) (cl : Bool) (s r : Nat) (h : c.C < w.heap.size) : ChAt c ((w.at d).setChan c.C c.n buf cl s r false) buf cl s r := by
  show (w.heap.setIfInBounds c.C _)[c.C]? = _
  rw [Array.getElem?_setIfInBounds_self_of_lt h]
section
variable {S : St} {gs : Array Goroutine} {w w' : World} {sl : Option (Nat × Nat)} {t u : Trace} {g : Goroutine}
theorem OnC.rely (h : OnC c w w') (hT : Tra c Shun S w t) (lv : c.Liv w') {O : Nat → Prop} (hO : ∀ b, O b → ¬ c.Sb b) : Rely c.Cold c.Liv O w w' :=
  ⟨Nat.le_of_eq h.size.symm, fun b hb => h.kept b fun e => hO b hb (.inr (.inr e)), fun b hb => h.kept b fun e => hT.ap.cs b (hT.cold ▸ hb) (hT.sb ▸ .inr (.inr e)), h.rest, fun _ => lv⟩
theorem Ok.rely {s : Stage} {k : Rk} {d : Nat} {O : Nat → Prop} {g : Goroutine} {w w' : World} (h : Ok c s k d O g w) (hr : Rely c.Cold c.Liv O w w') {buf : Array Value} {sh : Bool} {sn rn : Nat} (hc : ChAt c w' buf sh sn rn) (hk : pC s = 1 → sh = false) : Ok c s k d O g w' := by
  have := h.other hr hc hk { g with frame := { g.frame with mode := .run, todo := [] } } g
  have e0 : wks c.P { g with frame := { g.frame with mode := .run, todo := [] } } g = false := rfl
  rw [e0, woken_eq, e0] at this
  exact this
theorem Inv.others (h : Inv c Shun S gs w t) (o : OnC c w w') (lv : c.Liv w') {buf : Array Value} {sh : Bool} {sn rn : Nat} (hc : ChAt c w' buf sh sn rn) (hk : ∀ i, i < gs.size → pC (S.stg i) = 1 → sh = false) (hu : ∀ op ∈ u, Still op) {i : Nat} (hg : gs[i]? = some g) :
    Ok c (S.stg i) (S.rk i) (Deaf (t ++ u) i) (S.lay.own i) g w' := by
  rw [Deaf_still hu]
  exact (h.sits.sit i g hg).rely (o.rely h.tra lv fun b hb hs => h.tra.ap.os i b hb (h.tra.sb ▸ hs)) hc (hk i (Array.getElem?_eq_some_iff.1 hg).1)
theorem Tra.put {S' : St} (h : Tra c Shun S w t) (o : OnC c w w') (hu : ∀ op ∈ u, op.act.touch? = none) {own' fl' : Nat → Nat → Prop} (e : S'.lay = { S.lay with own := own', fl := fl' }) (ap : S'.lay.Apart) (e4 : S'.j = S.j) (e5 : S'.cl = S.cl)
    (ho : ∀ i, i < S.j → out (S'.stg (c.b + i)) = true → out (S.stg (c.b + i)) = true) (hn : S.cl = true → S'.stg (c.b + c.n) = S.stg (c.b + c.n)) (hown : ∀ g b, own' g b → b < w.heap.size ∧ (g = 0 ∨ kid c S g)) (hfl : ∀ k b, fl' k b → b < w.heap.size ∧ S'.r ≤ k ∧ k < S'.s)
    (pt : PT S'.lay c.C c.Wg Shun w.heap.size (kid c S) (who c S) (t ++ u)) : Tra c Shun S' w' (t ++ u) := by
  have hkid : kid c S' = kid c S := by unfold kid; rw [e4, e5]
  have hwho : who c S' = who c S := by unfold who; rw [e5]
  refine ⟨ap, by rw [e]; exact h.cold, by rw [e]; exact h.sb, fun g b hb => ?_, fun k b hb => ?_, fun b hb => by rw [o.size]; exact h.coldLt b hb, fun b hb => by rw [o.size]; exact h.sbLt b hb, by rw [hkid, hwho, o.size]; exact pt, fun i hi ho' => ?_, fun hcl hC => ?_⟩
  · rw [hkid, o.size]; rw [e] at hb; exact hown g b hb
  · rw [o.size]; rw [e] at hb; exact hfl k b hb
  · rw [e4] at hi
    obtain ⟨r, hr⟩ := h.rel i hi (ho i hi ho')
    exact ⟨r, hr.none hu⟩
  · rw [e5] at hcl
    rw [hn hcl] at hC ⊢
    obtain ⟨q, hA, hS⟩ := h.acq hcl hC
    have hq := lt_of_act? hA.act
    refine ⟨q, ⟨?_, g?_app hA.by_, (heard_old hq).2 hA.heard, fun g hg => ?_⟩, fun hQ => ?_⟩
    · rw [act?_old hq]; exact hA.act
    · obtain ⟨r, hr, hrq⟩ := hA.all g hg
      exact ⟨r, hr.none hu, hrq⟩
    · obtain ⟨p, hP⟩ := hS hQ
      have hp := lt_of_act? hP.act
      refine ⟨p, ?_, g?_app hP.by_, (heard_old hp).2 hP.heard, hP.lt, fun i hi1 hi2 => ?_⟩
      · rw [act?_old hp]; exact hP.act
      · rcases g?_cases hi2 with ⟨hlt, hg'⟩ | ⟨_, op, hop, hx, _⟩
        · rw [touchAt_old hlt]; exact hP.after i hi1 hg'
        · rw [touchAt_of hx]; exact hu op hop
theorem Ok.offers {s : Stage} {k : Rk} {d : Nat} {O : Nat → Prop} {g : Goroutine} {w : World} (h : Ok c s k d O g w) : (offersAt g c.C true = if pC s = 1 then [0] else []) ∧ (offersAt g c.C false = if isPk s = true then [0] else []) := by
  have nb : g.status ≠ .blocked → pC s = 0 → isPk s = false → (offersAt g c.C true = if pC s = 1 then [0] else []) ∧ (offersAt g c.C false = if isPk s = true then [0] else []) := fun h1 h2 h3 => by
    rw [h2, h3]
    exact ⟨offersAt_of_not_blocked h1 _ _, offersAt_of_not_blocked h1 _ _⟩
  have rn : g.status = .running → g.status ≠ .blocked := fun e => by rw [e]; simp
  cases s with
  | pk rs =>
    obtain ⟨_, g0, z, _, rfl, _⟩ := h
    exact ⟨offersAt_parked_recv' _ _ _ _ _, by rw [offersAt_parked_recv]; simp [isPk]⟩
  | K n =>
    obtain ⟨_, _, g0, z, v, rfl, _⟩ := h
    exact ⟨by rw [offersAt_parked_send]; simp [pC], offersAt_parked_send' _ _ _ _ _ _⟩
  | B3 =>
    obtain ⟨_, g0, h1, rfl⟩ := h
    have : g0.offers = none := by
      obtain ⟨_, _, e, _⟩ := h1 w (Rely.refl w)
      exact e
    constructor <;> simp [offersAt, this, pC, isPk]
  | Q =>
    obtain ⟨q, _, h⟩ := h
    exact nb (by rcases h.status with e | e <;> rw [e] <;> simp) rfl rfl
  | D => exact nb (rn (Gk.run h.1 fun _ _ _ _ h => h.1)) rfl rfl
  | D2 => exact nb (rn (Gk.run h.1 fun _ _ _ _ h => h.1)) rfl rfl
  | D3 => exact nb (rn (Gk.run h.1 fun _ _ _ _ h => h.1)) rfl rfl
  | D4 => exact nb (rn (Gk.run h.1 fun _ _ _ _ h => h.1)) rfl rfl
  | W2 v => exact nb (rn (Gk.run h.1 fun _ _ _ _ h => h.1)) rfl rfl
  | _ => exact nb (rn (Gk.run h fun _ _ _ _ h => h.1)) rfl rfl
theorem Inv.noRecv (h : Inv c Shun S gs w t) (hm : isPk (S.stg 0) = false) (i : Nat) : partners (gs.setIfInBounds i ph) c.C false = [] := by
  refine partners_nil fun j x hx => ?_
  rcases getElem?_stand gs i j x hx with ⟨_, rfl⟩ | ⟨_, hj⟩
  · rfl
  · rw [(h.sits.sit j x hj).offers.2, if_neg]
    intro hp
    have := h.pks j (Array.getElem?_eq_some_iff.1 hj).1 hp
    subst this
    rw [hm] at hp
    cases hp
theorem Inv.noSend (h : Inv c Shun S gs w t) (hz : ∀ i, i < gs.size → pC (S.stg i) = 0) (i : Nat) : partners (gs.setIfInBounds i ph) c.C true = [] := by
  refine partners_nil fun j x hx => ?_
  rcases getElem?_stand gs i j x hx with ⟨_, rfl⟩ | ⟨_, hj⟩
  · rfl
  · rw [(h.sits.sit j x hj).offers.1, hz j (Array.getElem?_eq_some_iff.1 hj).1]
    rfl
theorem pC_01 (s : Stage) : pC s = 0 ∨ pC s = 1 := by cases s <;> simp [pC]
theorem Inv.pW (h : Inv c Shun S gs w t) {i : Nat} (hi : i < gs.size) (hp : pC (S.stg i) = 1) : ∃ j, j < S.j ∧ i = c.b + j := by
  have hsz := h.sits.size
  have A := h.ari
  rcases Nat.eq_zero_or_pos i with rfl | h0
  · have := A.m0; revert this hp; cases S.stg 0 <;> simp [isM, pC]
  · rcases Nat.lt_or_ge i c.b with h1 | h1
    · have := A.old i h0 h1; revert this hp; cases S.stg i <;> simp [isQ, pC]
    · rcases Nat.lt_or_ge i (c.b + S.j) with h2 | h2
      · exact ⟨i - c.b, by omega, by omega⟩
      · cases hcl : S.cl with
        | false => rw [hcl] at hsz; simp at hsz; omega
        | true =>
          rw [hcl] at hsz
          obtain ⟨hj, hc⟩ := A.cs hcl
          simp at hsz
          rw [show c.b + c.n = i by omega] at hc
          revert hc hp; cases S.stg i <;> simp [isC, pC]
theorem Inv.sumP (h : Inv c Shun S gs w t) (hz : (sumTo gs.size fun i => pC (S.stg i)) = 0) : ∀ i, i < gs.size → pC (S.stg i) = 0 := fun i hi => by
  have : pC (S.stg i) ≤ sumTo gs.size fun i => pC (S.stg i) := le_sumTo (f := fun i => pC (S.stg i)) hi
  omega
theorem Inv.open_ (h : Inv c Shun S gs w t) {i0 : Nat} (hlt : i0 < gs.size) (hp : 1 ≤ vC (S.stg i0) + xC (S.stg i0) + yC (S.stg i0)) : S.shut = false := by
  cases e : S.shut with
  | false => rfl
  | true =>
    obtain ⟨e1, e2⟩ := h.ari.shut.1 e
    have := h.notCL hlt hp e1
    revert this e2
    cases S.stg (c.b + c.n) <;> simp [isCL, isQ]
theorem Hea.mk_ (L : Laws c) {S' : St} (h : Hea c S w) (hT : Tra c Shun S w t) (o : OnC c w w') (lv : c.Liv w') (e1 : S'.v = S.v ∧ S'.wtg = S.wtg ∧ S'.sm = S.sm ∧ S'.nx = S.nx) (hc : ChAt c w' (S'.bf.map (·.2)).toArray S'.shut S'.s S'.r) (hl : S'.s = S'.r + S'.bf.length) (hr : S'.bf.length ≤ c.n)
    (hi : ∀ i k v, S'.bf[i]? = some (k, v) → c.Item k v (S'.lay.fl (S'.r + i)) w') : Hea c S' w' := by
  obtain ⟨n1, n2, n3⟩ := h.ne
  obtain ⟨a1, a2, a3, a4⟩ := e1
  exact ⟨by rw [a1, a2, a3]; exact (o.kept _ n2).trans h.wg, by rw [a4]; exact (o.kept _ n3).trans h.ct, hc, hi, hl, hr⟩
theorem Hea.livC (h : Hea c S w) (o : OnC c w w') {buf : Array Value} {cl : Bool} {s r : Nat} (hc : ChAt c w' buf cl s r) : c.Liv w' := by
  obtain ⟨n1, n2, n3⟩ := h.ne
  exact ⟨⟨_, _, (o.kept _ n2).trans h.wg⟩, ⟨_, (o.kept _ n3).trans h.ct⟩, _, _, _, _, hc⟩
def Goal (c : Cfg) (Shun : Loc → Prop) (S : St) (gs : Array Goroutine) (w : World) (sl : Option (Nat × Nat)) (t : Trace) (i0 : Nat) : Prop :=
  ∃ S' gs' w' ops, runT c.P (crowd gs w sl) i0 = (.next (crowd gs' w' sl), ops) ∧ Inv c Shun S' gs' w' (t ++ ops) ∧ Lt (mu c S' gs'.size) (mu c S gs.size)
theorem none_ops (i : Nat) (fn : FuncId) (pos : String) (u : Trace) : MemOp.ofEvents i fn pos #[] ++ u = u := by
  rw [show MemOp.ofEvents i fn pos #[] = #[] from rfl, Array.empty_append]
theorem nope (stg : Nat → Stage) (i0 : Nat) (s1 : Stage) (sh : Bool) : nxt stg i0 s1 false sh = upd stg i0 s1 := by
  funext i
  unfold nxt upd
  split <;> rfl
theorem two_still {a b : MemOp} (ha : Still a) (hb : Still b) : ∀ op ∈ (#[a, b] : Trace), Still op := fun op hop => by
  simp only [List.mem_toArray, List.mem_cons, List.not_mem_nil, or_false] at hop
  rcases hop with rfl | rfl
  · exact ha
  · exact hb
theorem four_still {a b d e : MemOp} (ha : Still a) (hb : Still b) (hd : Still d) (he : Still e) : ∀ op ∈ (#[a, b, d, e] : Trace), Still op := fun op hop => by
  simp only [List.mem_toArray, List.mem_cons, List.not_mem_nil, or_false] at hop
  rcases hop with rfl | rfl | rfl | rfl
  · exact ha
  · exact hb
  · exact hd
  · exact he
theorem sendRoom (L : Laws c) (h : Inv c Shun S gs w t) {i k : Nat} (hi : i < S.j) (hg : gs[c.b + i]? = some g) (hs : S.stg (c.b + i) = .S k) (hA : AtSend c k (Deaf t (c.b + i)) (S.lay.own (c.b + i)) g w) (hm : isPk (S.stg 0) = false) (hroom : S.bf.length < c.n) : Goal c Shun S gs w sl t (c.b + i) := by
  have A := h.ari
  have hsz := h.sits.size
  have hb := A.b
  have hlt : c.b + i < gs.size := (Array.getElem?_eq_some_iff.1 hg).1
  obtain ⟨h1, h2, z, v, e, hit, hlp⟩ := hA
  rw [show false = ((c.b + i) == 0) by simp; omega] at e
  have nsh := h.open_ hlt (by rw [hs]; exact (by decide : 1 ≤ 1 + 0 + 0))
  have hch := h.hea.ch
  rw [nsh] at hch
  have hrun := crowd_send_room (sl := sl) hg e hch (by simpa using hroom) (h.noRecv hm _)
  rw [finishComm_send, none_ops] at hrun
  have o : OnC c w (w.setChan c.C c.n ((S.bf.map (·.2)).toArray.push v) false (S.s + 1) S.r false) := OnC.chan c w w.drawn _ _ _ _
  have hch' : ChAt c (w.setChan c.C c.n ((S.bf.map (·.2)).toArray.push v) false (S.s + 1) S.r false) ((S.bf.map (·.2)).toArray.push v) false (S.s + 1) S.r := OnC.at_ c w w.drawn _ _ _ _ (h.tra.sbLt _ (.inr (.inr rfl)))
  have lv := h.hea.livC o hch'
  obtain ⟨kk, hkk⟩ := (L.lp _ _ (hlp _ (o.rely h.tra lv fun b hb => hb.elim))).rank
  generalize hu : (#[{ g := c.b + i, fn := (core g).frame.fn, pos := (core g).frame.place, act := .send c.C S.s }, { g := c.b + i, fn := (core g).frame.fn, pos := (core g).frame.place, act := .sendDone c.C S.s }] : Trace) = u at hrun
  have hstill : ∀ op ∈ u, Still op := by subst hu; exact two_still ⟨rfl, fun m e => by cases e⟩ ⟨rfl, fun m e => by cases e⟩
  have hC := h.tra.sbLt c.C (.inr (.inr rfl))
  have hlow : ∀ op ∈ u, op.act.low w.heap.size ∧ op.act ≠ .mark (.release ⟨c.Wg, 0, none⟩) := by
    subst hu
    intro op hop
    simp only [List.mem_toArray, List.mem_cons, List.not_mem_nil, or_false] at hop
    rcases hop with rfl | rfl
    · exact ⟨hC, by simp⟩
    · exact ⟨hC, by simp⟩
  let S' : St := { S with stg := nxt S.stg (c.b + i) .L false S.shut, rk := upd S.rk (c.b + i) kk, bf := S.bf ++ [(k, v)], s := S.s + 1, lay := { S.lay with own := upd S.lay.own (c.b + i) None, fl := fun n b => S.lay.fl n b ∨ (n = S.s ∧ S.lay.own (c.b + i) b) } }
  have hown : ∀ g b, upd S.lay.own (c.b + i) None g b → S.lay.own g b ∧ g ≠ c.b + i := fun g b hb' => by
    by_cases e : g = c.b + i
    · subst e; rw [upd_same] at hb'; exact hb'.elim
    · rw [upd_ne _ _ e] at hb'; exact ⟨hb', e⟩
  have hfs : ∀ n b, S.lay.fl n b → n < S.s := fun n b hf => (h.tra.fl n b hf).2.2
  have ap : S'.lay.Apart := by
    have A := h.tra.ap
    refine ⟨fun g g' b h1 h2 => A.oo g g' b (hown g b h1).1 (hown g' b h2).1, fun g n b h1 h2 => ?_, fun g b h1 => A.oc g b (hown g b h1).1, fun g b h1 => A.os g b (hown g b h1).1, fun n n' b h1 h2 => ?_, fun n b h1 => ?_, fun n b h1 => ?_, A.cs⟩
    · rcases h2 with h2 | ⟨_, h2⟩
      · exact A.of g n b (hown g b h1).1 h2
      · exact (hown g b h1).2 (A.oo g _ b (hown g b h1).1 h2)
    · rcases h1 with h1 | ⟨rfl, h1⟩ <;> rcases h2 with h2 | ⟨h3, h2⟩
      · exact A.ff n n' b h1 h2
      · exact absurd h1 (A.of _ n b h2)
      · exact absurd h2 (A.of _ n' b h1)
      · exact h3.symm
    · rcases h1 with h1 | ⟨_, h1⟩
      · exact A.fc n b h1
      · exact A.oc _ b h1
    · rcases h1 with h1 | ⟨_, h1⟩
      · exact A.fs n b h1
      · exact A.os _ b h1
  refine ⟨S', _, _, u, hrun, ⟨⟨fun j x hx => ?_, fun j hj => ?_, by simpa using hsz⟩, ?_, ?_, ?_⟩, ?_⟩
  · by_cases ej : j = c.b + i
    · subst ej
      rw [Array.getElem?_setIfInBounds_self_of_lt hlt] at hx
      cases hx
      show Ok c (nxt S.stg (c.b + i) .L false S.shut (c.b + i)) (upd S.rk (c.b + i) kk (c.b + i)) _ (upd S.lay.own (c.b + i) None (c.b + i)) _ _
      rw [nxt_self, upd_same, upd_same, Deaf_still hstill, h2]
      exact hkk
    · rw [Array.getElem?_setIfInBounds_ne (fun x => ej x.symm)] at hx
      show Ok c (nxt S.stg (c.b + i) .L false S.shut j) (upd S.rk (c.b + i) kk j) _ (upd S.lay.own (c.b + i) None j) _ _
      rw [nxt_ne _ _ _ _ ej, upd_ne _ _ ej, upd_ne _ _ ej]
      exact h.others o lv hch' (fun j hj hp => rfl) hstill hx
  · rw [Deaf_still hstill]; exact h.sits.above j (by simpa using hj)
  · refine h.tra.put (S' := S') o (fun op hop => (hstill op hop).1) rfl ap rfl rfl (fun j hj ho => ?_) (fun hcl => ?_) (fun g b hb' => h.tra.own g b (hown g b hb').1) (fun n b hb' => ?_) ?_
    · by_cases ej : j = i
      · subst ej
        have ho : out (nxt S.stg (c.b + j) .L false S.shut (c.b + j)) = true := ho
        rw [nxt_self] at ho; cases ho
      · have ho : out (nxt S.stg (c.b + i) .L false S.shut (c.b + j)) = true := ho
        rw [nxt_ne _ _ _ _ (by omega)] at ho; exact ho
    · show nxt S.stg (c.b + i) .L false S.shut (c.b + c.n) = _
      rw [nxt_ne _ _ _ _ (by have := (A.cs hcl).1; omega)]; rfl
    · have hl := h.hea.len
      rcases hb' with hb' | ⟨rfl, hb'⟩
      · obtain ⟨q1, q2, q3⟩ := h.tra.fl n b hb'
        exact ⟨q1, q2, Nat.lt_succ_of_lt q3⟩
      · exact ⟨(h.tra.own _ b hb').1, (by omega : S.r ≤ S.s), Nat.lt_succ_self _⟩
    · have hat : (t ++ u)[t.size]? = some { g := c.b + i, fn := (core g).frame.fn, pos := (core g).frame.place, act := .send c.C S.s } := by
        rw [Array.getElem?_append_right (Nat.le_refl _), Nat.sub_self, ← hu]; rfl
      refine h.tra.pt.give (fun op hop => (hstill op hop).1) (fun op hop => (hlow op hop).1) (fun op hop => (hlow op hop).2) (g := c.b + i) (k := S.s) (Nat.le_refl _) hat rfl rfl ⟨c.b + i, by simp [Trace.g?, hat], ?_⟩ (fun g b hb' => (hown g b hb').1) (fun n b hb' => hb')
      rw [deaf_old (Nat.le_refl _)]; exact h2
  · refine h.hea.mk_ L h.tra o lv ⟨rfl, rfl, rfl, rfl⟩ ?_ ?_ ?_ (fun n kn vn hn => ?_)
    · show ChAt c _ ((S.bf ++ [(k, v)]).map (·.2)).toArray S.shut (S.s + 1) S.r
      rw [nsh]
      have : ((S.bf ++ [(k, v)]).map (·.2)).toArray = (S.bf.map (·.2)).toArray.push v := by simp
      rw [this]
      exact hch'
    · show S.s + 1 = S.r + (S.bf ++ [(k, v)]).length
      have := h.hea.len
      simp
      omega
    · show (S.bf ++ [(k, v)]).length ≤ c.n
      simp
      omega
    · have hn : (S.bf ++ [(k, v)])[n]? = some (kn, vn) := hn
      show c.Item kn vn (fun b => S.lay.fl (S.r + n) b ∨ (S.r + n = S.s ∧ S.lay.own (c.b + i) b)) _
      have hl := h.hea.len
      rcases Nat.lt_or_ge n S.bf.length with hlt' | hge
      · rw [List.getElem?_append_left hlt'] at hn
        have e : (fun b => S.lay.fl (S.r + n) b ∨ (S.r + n = S.s ∧ S.lay.own (c.b + i) b)) = S.lay.fl (S.r + n) := by
          funext b
          exact propext ⟨fun x => x.elim id fun y => by omega, .inl⟩
        rw [e]
        exact L.item _ _ _ _ _ (o.rely h.tra lv fun b hb' hs' => h.tra.ap.fs _ b hb' (h.tra.sb ▸ hs')) (h.hea.items n kn vn hn)
      · rw [List.getElem?_append_right hge] at hn
        have hn0 : n = S.bf.length := by
          have := (List.getElem?_eq_some_iff.1 hn).1
          simp at this
          omega
        subst hn0
        simp at hn
        obtain ⟨rfl, rfl⟩ := hn
        have e : (fun b => S.lay.fl (S.r + S.bf.length) b ∨ (S.r + S.bf.length = S.s ∧ S.lay.own (c.b + i) b)) = S.lay.own (c.b + i) := by
          funext b
          exact propext ⟨fun x => x.elim (fun y => by have := hfs _ _ y; omega) (·.2), fun x => .inr ⟨by omega, x⟩⟩
        rw [e]
        exact L.item _ _ _ _ _ (o.rely h.tra lv fun b hb' hs' => h.tra.ap.os _ b hb' (h.tra.sb ▸ hs')) hit
  · rw [show (gs.setIfInBounds (c.b + i) (Conc.served (core g) undef)).size = gs.size by simp]
    refine A.worker (S' := S') (wk := false) hsz hi hs rfl rfl rfl rfl rfl rfl (Nat.le_refl _) (.inl (Nat.le_refl _)) (Nat.le_refl _) (Nat.le_refl _) (fun x => ?_) (fun e => by cases e) (fun ck w3 w3' x y x' y' h3 _ hx hy hm => ?_) (fun e => by cases e) (.inr ⟨by simp [S'], hroom⟩) (fun hp => by rw [hm] at hp; cases hp)
    · show ((S.bf ++ [(k, v)]).map (·.1)).count x + kC x .L + (if x < S.nx ∧ x < c.N then 1 else 0) = (S.bf.map (·.1)).count x + kC x (.S k) + (if x < S.nx ∧ x < c.N then 1 else 0)
      have : kC x (.S k) = List.count x [k] := by
        simp only [kC, List.count_cons, List.count_nil, beq_iff_eq]
        split <;> simp
      have q : kC x .L = 0 := rfl
      rw [this, q, List.map_append, List.count_append]
      simp only [List.map_cons, List.map_nil]
      omega
    · have hx : x' = x := hx
      have hy : y' = y := hy
      subst hx hy
      exact mode_keep h3 hm
  · rw [show (gs.setIfInBounds (c.b + i) (Conc.served (core g) undef)).size = gs.size by simp]
    refine lt_of_phi hlt hs (S' := S') (s1 := .L) (wk := false) (sh := S.shut) rfl (fun x hx hp _ => by have := h.pks x hx hp; subst this; exact (A.pkm hp).2) ?_
    have h1 := stale_same (c := c) (S := S) (S' := S') (s1 := .L) (wk := false) (sh := S.shut) (i0 := c.b + i) rfl (by have := A.j; omega) S.v
    show 4 * (c.N - S.nx) + (S.bf ++ [(k, v)]).length + 8 + (if S.cl then stale S.v (S'.stg (c.b + c.n)) else 0) < 4 * (c.N - S.nx) + S.bf.length + 11 + _
    rw [h1]
    simp
    omega
end
end Pool
end Go.Proofs.YtdkpbobglogmoaaGreat
namespace Go.Proofs.YtdkpbobglogmoaaGreat
open Go Go.Conc
open Go.ConcR (KK wgBlock WgAt stA smA rd wr mk)
open Go.ConcN (sumTo upd sumTo_upd upd_ne upd_same sumTo_congr le_sumTo)
namespace Pool
open Ren (Loc.blk Rely Gt Gk Rk Terms Did EvO New With)
variable {c : Cfg} {Shun : Loc → Prop}
section
variable {S : St} {gs : Array Goroutine} {w w' : World} {sl : Option (Nat × Nat)} {t u : Trace} {g : Goroutine}
theorem no_ops (i : Nat) (fn : FuncId) (pos : String) : MemOp.ofEvents i fn pos #[] = #[] := rfl
theorem app_nil (t : Trace) : t ++ (#[] : Trace) = t := Array.append_empty
theorem Inv.lay1 (L : Laws c) (h : Inv c Shun S gs w t) {i0 : Nat} {g1 : Goroutine} {s1 : Stage} {k1 : Rk} (hlt : i0 < gs.size) (ok : Ok c s1 k1 (Deaf t i0) (S.lay.own i0) g1 w) (hc : i0 ≠ c.b + c.n) (ho : out s1 = true → out (S.stg i0) = true)
    (ari : Ari c { S with stg := nxt S.stg i0 s1 false S.shut, rk := upd S.rk i0 k1 } gs.size) : Inv c Shun { S with stg := nxt S.stg i0 s1 false S.shut, rk := upd S.rk i0 k1 } (gs.setIfInBounds i0 g1) w t := by
  refine ⟨⟨fun j x hx => ?_, fun j hj => h.sits.above j (by simpa using hj), by simpa using h.sits.size⟩, ?_, ⟨h.hea.wg, h.hea.ct, h.hea.ch, h.hea.items, h.hea.len, h.hea.room⟩, by simpa using ari⟩
  · by_cases ej : j = i0
    · subst ej
      rw [Array.getElem?_setIfInBounds_self_of_lt hlt] at hx
      cases hx
      show Ok c (nxt S.stg j s1 false S.shut j) (upd S.rk j k1 j) _ _ _ _
      rw [nxt_self, upd_same]
      exact ok
    · rw [Array.getElem?_setIfInBounds_ne (fun x => ej x.symm)] at hx
      show Ok c (nxt S.stg i0 s1 false S.shut j) (upd S.rk i0 k1 j) _ _ _ _
      rw [nxt_ne _ _ _ _ ej, upd_ne _ _ ej]
      exact h.sits.sit j x hx
  · have T := h.tra
    refine ⟨T.ap, T.cold, T.sb, T.own, T.fl, T.coldLt, T.sbLt, T.pt, fun j hj ho' => ?_, fun hcl hC => ?_⟩
    · have ho' : out (nxt S.stg i0 s1 false S.shut (c.b + j)) = true := ho'
      by_cases ej : c.b + j = i0
      · rw [ej, nxt_self] at ho'
        have := ho ho'
        rw [← ej] at this
        exact T.rel j hj this
      · rw [nxt_ne _ _ _ _ ej] at ho'
        exact T.rel j hj ho'
    · have hC : isCL (nxt S.stg i0 s1 false S.shut (c.b + c.n)) = true := hC
      rw [nxt_ne _ _ _ _ (fun x => hc x.symm)] at hC
      show ∃ q, _ ∧ (isQ (nxt S.stg i0 s1 false S.shut (c.b + c.n)) = true → _)
      rw [nxt_ne _ _ _ _ (fun x => hc x.symm)]
      exact T.acq hcl hC
theorem sendFull (L : Laws c) (h : Inv c Shun S gs w t) {i k : Nat} (hi : i < S.j) (hg : gs[c.b + i]? = some g) (hs : S.stg (c.b + i) = .S k) (hA : AtSend c k (Deaf t (c.b + i)) (S.lay.own (c.b + i)) g w) (hm : isPk (S.stg 0) = false) (hroom : S.bf.length = c.n) : Goal c Shun S gs w sl t (c.b + i) := by
  have A := h.ari
  have hsz := h.sits.size
  have hb := A.b
  have hlt : c.b + i < gs.size := (Array.getElem?_eq_some_iff.1 hg).1
  obtain ⟨h1, h2, z, v, e, hit, hlp⟩ := hA
  rw [show false = ((c.b + i) == 0) by simp; omega] at e
  have nsh := h.open_ hlt (by rw [hs]; exact (by decide : 1 ≤ 1 + 0 + 0))
  have hch := h.hea.ch
  rw [nsh] at hch
  have hrun := crowd_waits (sl := sl) hg e (fun cc hcc => by
    simp at hcc
    subst hcc
    exact ways_send_none hch (by simp [hroom]) (h.noRecv hm _))
  rw [no_ops] at hrun
  have ari : Ari c { S with stg := nxt S.stg (c.b + i) (.K k) false S.shut, rk := upd S.rk (c.b + i) .leaf } gs.size := by
    refine A.worker (S' := { S with stg := nxt S.stg (c.b + i) (.K k) false S.shut, rk := upd S.rk (c.b + i) .leaf }) (wk := false) hsz hi hs rfl rfl rfl rfl rfl rfl (Nat.le_refl _) (.inl (Nat.le_refl _)) (Nat.le_refl _) (Nat.le_refl _) (fun x => rfl) (fun e => by cases e) (fun ck w3 w3' x y x' y' h3 _ hx hy hm => ?_) (fun _ => ⟨hroom, nsh⟩) (.inl rfl) (fun hp => by rw [hm] at hp; cases hp)
    have hx : x' = x := hx
    have hy : y' = y := hy
    subst hx hy
    exact mode_keep h3 hm
  refine ⟨{ S with stg := nxt S.stg (c.b + i) (.K k) false S.shut, rk := upd S.rk (c.b + i) .leaf }, _, _, #[], hrun, ?_, ?_⟩
  · rw [app_nil]
    exact h.lay1 L hlt (s1 := .K k) (k1 := .leaf) ⟨rfl, h2, g, z, v, rfl, fun w1 r => L.item _ _ _ _ _ r hit, hlp⟩ (by have := A.j; omega) (fun e => by cases e) ari
  · rw [show (gs.setIfInBounds (c.b + i) (parked (core g) #[scase c.C v z] .send)).size = gs.size by simp]
    refine lt_of_phi hlt hs (S' := { S with stg := nxt S.stg (c.b + i) (.K k) false S.shut, rk := upd S.rk (c.b + i) .leaf }) (s1 := .K k) (wk := false) (sh := S.shut) rfl (fun x hx hp _ => by have := h.pks x hx hp; subst this; exact (A.pkm hp).2) ?_
    have h1 := stale_same (c := c) (S := S) (S' := { S with stg := nxt S.stg (c.b + i) (.K k) false S.shut, rk := upd S.rk (c.b + i) .leaf }) (s1 := .K k) (wk := false) (sh := S.shut) (i0 := c.b + i) rfl (by have := A.j; omega) S.v
    show 4 * (c.N - S.nx) + S.bf.length + 10 + (if S.cl then stale S.v (nxt S.stg (c.b + i) (.K k) false S.shut (c.b + c.n)) else 0) < 4 * (c.N - S.nx) + S.bf.length + 11 + _
    rw [h1]
    omega
theorem recvWaits (L : Laws c) (h : Inv c Shun S gs w t) {rs : List Nat} (hg : gs[0]? = some g) (hs : S.stg 0 = .rv rs) (hA : ∀ w1, Rely c.Cold c.Liv (S.lay.own 0) w w1 → AtRecv c rs (Deaf t 0) (S.lay.own 0) g w1) (hbf : S.bf = []) (nsh : S.shut = false) : Goal c Shun S gs w sl t 0 := by
  have A := h.ari
  have hb := A.b
  have hlt : 0 < gs.size := (Array.getElem?_eq_some_iff.1 hg).1
  obtain ⟨h1, h2, z, e, k1, k2⟩ := hA w (Rely.refl w)
  have hch := h.hea.ch
  rw [nsh, hbf] at hch
  have zero : (sumTo gs.size fun i => pC (S.stg i)) = 0 := by
    rcases Nat.eq_zero_or_pos (sumTo gs.size fun i => pC (S.stg i)) with h0 | h0
    · exact h0
    · have := (A.pkw h0).1
      rw [hbf] at this
      have := L.n1
      simp at *
      omega
  have hrun := crowd_waits (sl := sl) hg (show stepG c.P (0 == 0) g w = _ from e) (fun cc hcc => by
    simp at hcc
    subst hcc
    exact ways_recv_none hch (h.noSend (h.sumP zero) 0))
  rw [no_ops] at hrun
  obtain ⟨ph1, ph2⟩ := A.ph
  rw [hs] at ph1 ph2
  have ari : Ari c { S with stg := nxt S.stg 0 (.pk rs) false S.shut, rk := upd S.rk 0 .leaf } gs.size :=
    A.main (S' := { S with stg := nxt S.stg 0 (.pk rs) false S.shut, rk := upd S.rk 0 .leaf }) (wk := false) hlt hs rfl rfl rfl rfl rfl rfl rfl rfl rfl (by have q := A.vj; rw [hs] at q; exact q) ⟨ph1, ph2⟩ (.inl rfl) (fun k => rfl) (fun hp => by omega) (fun _ => ⟨hbf, nsh⟩)
  refine ⟨{ S with stg := nxt S.stg 0 (.pk rs) false S.shut, rk := upd S.rk 0 .leaf }, _, _, #[], hrun, ?_, ?_⟩
  · rw [app_nil]
    exact h.lay1 L hlt (s1 := .pk rs) (k1 := .leaf) ⟨rfl, g, z, hA, rfl, w, e⟩ (by omega) (fun e => by cases e) ari
  · rw [show (gs.setIfInBounds 0 (parked (core g) #[rcase c.C z] (.recv true))).size = gs.size by simp]
    refine lt_of_phi hlt hs (S' := { S with stg := nxt S.stg 0 (.pk rs) false S.shut, rk := upd S.rk 0 .leaf }) (s1 := .pk rs) (wk := false) (sh := S.shut) rfl (fun x hx hp _ => nsh) ?_
    have h1 := stale_same (c := c) (S := S) (S' := { S with stg := nxt S.stg 0 (.pk rs) false S.shut, rk := upd S.rk 0 .leaf }) (s1 := .pk rs) (wk := false) (sh := S.shut) (i0 := 0) rfl (by omega) S.v
    show 4 * (c.N - S.nx) + S.bf.length + 1 + (if S.cl then stale S.v (nxt S.stg 0 (.pk rs) false S.shut (c.b + c.n)) else 0) < 4 * (c.N - S.nx) + S.bf.length + 2 + _
    rw [h1]
    omega
end
end Pool
end Go.Proofs.YtdkpbobglogmoaaGreat
namespace Go.Proofs.YtdkpbobglogmoaaGreat
open Go Go.Conc
open Go.ConcR (KK wgBlock WgAt stA smA rd wr mk)
open Go.ConcN (sumTo upd sumTo_upd upd_ne upd_same sumTo_congr le_sumTo)
namespace Pool
open Ren (Loc.blk Rely Gt Gk Rk Terms Did EvO New With)
variable {c : Cfg} {Shun : Loc → Prop}
section
variable {S : St} {gs : Array Goroutine} {w w' : World} {sl : Option (Nat × Nat)} {t u : Trace} {g : Goroutine}
theorem Ari.fresh_ {k : Nat} {v : Value} {tl : List (Nat × Value)} {rs : List Nat} (A : Ari c S gs.size) (hs : rsOf (S.stg 0) = rs) (hbf : S.bf = (k, v) :: tl) : k < c.N ∧ k ∉ rs := by
  have := A.count k
  rw [hs, hbf] at this
  simp only [List.map_cons, List.count_cons_self] at this
  have h1 : k < S.nx ∧ k < c.N := by
    apply Classical.byContradiction
    intro hc
    rw [if_neg hc] at this
    omega
  rw [if_pos h1] at this
  exact ⟨h1.2, fun hm => by have := List.count_pos_iff.2 hm; omega⟩
theorem recvBuf (L : Laws c) (h : Inv c Shun S gs w t) {rs : List Nat} {k : Nat} {v : Value} {tl : List (Nat × Value)} (hg : gs[0]? = some g) (hs : S.stg 0 = .rv rs) (hA : AtRecv c rs (Deaf t 0) (S.lay.own 0) g w) (hbf : S.bf = (k, v) :: tl) (zero : (sumTo gs.size fun i => pC (S.stg i)) = 0) : Goal c Shun S gs w sl t 0 := by
  have A := h.ari
  have hb := A.b
  have hlt : 0 < gs.size := (Array.getElem?_eq_some_iff.1 hg).1
  obtain ⟨h1, h2, z, e, k1, k2⟩ := hA
  have hch := h.hea.ch
  have hrun := crowd_recv_buf (sl := sl) hg (show stepG c.P (0 == 0) g w = _ from e) hch (by simp [hbf]) (h.noSend (h.sumP zero) 0)
  rw [finishComm_recv, none_ops, show ((S.bf.map (·.2)).toArray.getD 0 undef) = v by simp [hbf], show ((S.bf.map (·.2)).toArray.extract 1 (S.bf.map (·.2)).toArray.size) = (tl.map (·.2)).toArray by simp [hbf, List.take_of_length_le]] at hrun
  have o : OnC c w (w.setChan c.C c.n (tl.map (·.2)).toArray S.shut S.s (S.r + 1) false) := OnC.chan c w w.drawn _ _ _ _
  have hch' : ChAt c (w.setChan c.C c.n (tl.map (·.2)).toArray S.shut S.s (S.r + 1) false) (tl.map (·.2)).toArray S.shut S.s (S.r + 1) := OnC.at_ c w w.drawn _ _ _ _ (h.tra.sbLt _ (.inr (.inr rfl)))
  have lv := h.hea.livC o hch'
  generalize hw' : w.setChan c.C c.n (tl.map (·.2)).toArray S.shut S.s (S.r + 1) false = w' at *
  have T := h.tra
  obtain ⟨f1, f2⟩ := A.fresh_ (by rw [hs]) hbf
  have hit : c.Item k v (S.lay.fl S.r) w' := L.item _ _ _ _ _ (o.rely T lv fun b hb' hs' => T.ap.fs _ b hb' (T.sb ▸ hs')) (by have := h.hea.items 0 k v (by rw [hbf]; rfl); simpa using this)
  have hmp := k1 k v (S.lay.fl S.r) w' f1 f2 (o.rely T lv fun b hb' hs' => T.ap.os 0 b hb' (T.sb ▸ hs')) hit fun b hb' => ⟨by rw [o.size]; exact (T.fl _ b hb').1, fun hc => T.ap.fc _ b hb' (T.cold ▸ hc), fun hs' => T.ap.fs _ b hb' (T.sb ▸ hs'), fun ho => T.ap.of 0 _ b ho hb'⟩
  obtain ⟨kk, hkk⟩ := (L.mp _ _ _ _ hmp).rank
  generalize hu : (#[{ g := 0, fn := (core g).frame.fn, pos := (core g).frame.place, act := .recv c.C S.r c.n }, { g := 0, fn := (core g).frame.fn, pos := (core g).frame.place, act := .recvDone c.C S.r }] : Trace) = u at hrun
  have hstill : ∀ op ∈ u, Still op := by subst hu; exact two_still ⟨rfl, fun m e => by cases e⟩ ⟨rfl, fun m e => by cases e⟩
  have hC := T.sbLt c.C (.inr (.inr rfl))
  have hlow : ∀ op ∈ u, op.act.low w.heap.size ∧ op.act ≠ .mark (.release ⟨c.Wg, 0, none⟩) := by
    subst hu
    intro op hop
    simp only [List.mem_toArray, List.mem_cons, List.not_mem_nil, or_false] at hop
    rcases hop with rfl | rfl
    · exact ⟨hC, by simp⟩
    · exact ⟨hC, by simp⟩
  let own' := upd S.lay.own 0 (fun b => S.lay.own 0 b ∨ S.lay.fl S.r b)
  let fl' := fun n b => S.lay.fl n b ∧ n ≠ S.r
  let S' : St := { S with stg := nxt S.stg 0 (.rv (rs ++ [k])) false S.shut, rk := upd S.rk 0 kk, bf := tl, r := S.r + 1, lay := { S.lay with own := own', fl := fl' } }
  have hown : ∀ g b, own' g b → S.lay.own g b ∨ (g = 0 ∧ S.lay.fl S.r b) := fun g b hb' => by
    by_cases e : g = 0
    · subst e
      have hb' : upd S.lay.own 0 (fun b => S.lay.own 0 b ∨ S.lay.fl S.r b) 0 b := hb'
      rw [upd_same] at hb'; exact hb'.imp id fun x => ⟨rfl, x⟩
    · have hb' : upd S.lay.own 0 (fun b => S.lay.own 0 b ∨ S.lay.fl S.r b) g b := hb'
      rw [upd_ne _ _ e] at hb'; exact .inl hb'
  have ap : S'.lay.Apart := by
    have A := T.ap
    refine ⟨fun g g' b h1 h2 => ?_, fun g n b h1 h2 => ?_, fun g b h1 => ?_, fun g b h1 => ?_, fun n n' b h1 h2 => A.ff n n' b h1.1 h2.1, fun n b h1 => A.fc n b h1.1, fun n b h1 => A.fs n b h1.1, A.cs⟩
    · rcases hown g b h1 with h1 | ⟨e1, h1⟩ <;> rcases hown g' b h2 with h2 | ⟨e2, h2⟩
      · exact A.oo g g' b h1 h2
      · exact absurd h2 (A.of g _ b h1)
      · exact absurd h1 (A.of g' _ b h2)
      · rw [e1, e2]
    · rcases hown g b h1 with h1 | ⟨_, h1⟩
      · exact A.of g n b h1 h2.1
      · exact h2.2 (A.ff _ _ b h2.1 h1)
    · rcases hown g b h1 with h1 | ⟨_, h1⟩
      · exact A.oc g b h1
      · exact A.fc _ b h1
    · rcases hown g b h1 with h1 | ⟨_, h1⟩
      · exact A.os g b h1
      · exact A.fs _ b h1
  obtain ⟨ph1, ph2⟩ := A.ph
  rw [hs] at ph1 ph2
  refine ⟨S', _, _, u, hrun, ⟨⟨fun j x hx => ?_, fun j hj => ?_, by simpa using h.sits.size⟩, ?_, ?_, ?_⟩, ?_⟩
  · by_cases ej : j = 0
    · subst ej
      rw [Array.getElem?_setIfInBounds_self_of_lt hlt] at hx
      cases hx
      show Ok c (nxt S.stg 0 (.rv (rs ++ [k])) false S.shut 0) (upd S.rk 0 kk 0) _ (upd S.lay.own 0 _ 0) _ _
      rw [nxt_self, upd_same, upd_same, Deaf_still hstill, h2]
      exact hkk
    · rw [Array.getElem?_setIfInBounds_ne (fun x => ej x.symm)] at hx
      show Ok c (nxt S.stg 0 (.rv (rs ++ [k])) false S.shut j) (upd S.rk 0 kk j) _ (upd S.lay.own 0 _ j) _ _
      rw [nxt_ne _ _ _ _ ej, upd_ne _ _ ej, upd_ne _ _ ej]
      exact h.others o lv hch' (fun j hj hp => by have := h.sumP zero j hj; omega) hstill hx
  · rw [Deaf_still hstill]; exact h.sits.above j (by simpa using hj)
  · refine T.put (S' := S') o (fun op hop => (hstill op hop).1) rfl ap rfl rfl (fun j hj ho => ?_) (fun hcl => ?_) (fun g b hb' => ?_) (fun n b hb' => ?_) ?_
    · have ho : out (nxt S.stg 0 (.rv (rs ++ [k])) false S.shut (c.b + j)) = true := ho
      rw [nxt_ne _ _ _ _ (by omega)] at ho; exact ho
    · show nxt S.stg 0 (.rv (rs ++ [k])) false S.shut (c.b + c.n) = _
      rw [nxt_ne _ _ _ _ (by omega)]; rfl
    · rcases hown g b hb' with h1 | ⟨rfl, h1⟩
      · exact T.own g b h1
      · exact ⟨(T.fl _ b h1).1, .inl rfl⟩
    · obtain ⟨q1, q2, q3⟩ := T.fl n b hb'.1
      have := hb'.2
      exact ⟨q1, (by omega : S.r + 1 ≤ n), q3⟩
    · have hat : (t ++ u)[t.size + 1]? = some { g := 0, fn := (core g).frame.fn, pos := (core g).frame.place, act := .recvDone c.C S.r } := by
        rw [Array.getElem?_append_right (by omega), show t.size + 1 - t.size = 1 by omega, ← hu]; rfl
      have m := T.pt.mute (u := u) (fun op hop => (hstill op hop).1) (fun op hop => (hlow op hop).1) (fun op hop => (hlow op hop).2)
      refine m.take (k := S.r) (q := t.size + 1) (by rw [act?_of hat]) (by simp [Trace.g?, hat]) ⟨0, by simp [Trace.g?, hat], ?_⟩ (fun n b hb' => hb'.1) (fun g b hb' => hown g b hb')
      have hat0 : (t ++ u)[t.size]? = some { g := 0, fn := (core g).frame.fn, pos := (core g).frame.place, act := .recv c.C S.r c.n } := by
        rw [Array.getElem?_append_right (Nat.le_refl _), Nat.sub_self, ← hu]; rfl
      rw [deaf_succ hat0, deaf_old (Nat.le_refl _)]
      exact h2
  · refine h.hea.mk_ L T o lv ⟨rfl, rfl, rfl, rfl⟩ hch' ?_ ?_ (fun n kn vn hn => ?_)
    · show S.s = S.r + 1 + tl.length
      have := h.hea.len
      rw [hbf] at this
      simp at this
      omega
    · show tl.length ≤ c.n
      have := h.hea.room
      rw [hbf] at this
      simp at this
      omega
    · have hn : tl[n]? = some (kn, vn) := hn
      show c.Item kn vn (fun b => S.lay.fl (S.r + 1 + n) b ∧ S.r + 1 + n ≠ S.r) w'
      have e : (fun b => S.lay.fl (S.r + 1 + n) b ∧ S.r + 1 + n ≠ S.r) = S.lay.fl (S.r + (n + 1)) := by
        funext b
        exact propext ⟨fun x => by have := x.1; rwa [show S.r + (n + 1) = S.r + 1 + n by omega], fun x => ⟨by rwa [show S.r + 1 + n = S.r + (n + 1) by omega], by omega⟩⟩
      rw [e]
      exact L.item _ _ _ _ _ (o.rely T lv fun b hb' hs' => T.ap.fs _ b hb' (T.sb ▸ hs')) (h.hea.items (n + 1) kn vn (by rw [hbf]; exact hn))
  · rw [show (gs.setIfInBounds 0 (Conc.served (core g) (recvd true v true))).size = gs.size by simp]
    refine A.main (S' := S') (wk := false) hlt hs rfl rfl rfl rfl rfl rfl rfl rfl rfl (by have q := A.vj; rw [hs] at q; exact q) ⟨ph1, ph2⟩ (.inl rfl) (fun x => ?_) (fun hp => by omega) (fun e => by cases e)
    show (rs ++ [k]).count x + (tl.map (·.1)).count x = rs.count x + (S.bf.map (·.1)).count x
    rw [hbf, List.count_append, List.map_cons, show (k :: List.map (fun x => x.1) tl : List Nat) = [k] ++ List.map (fun x => x.1) tl from rfl, List.count_append]
    omega
  · rw [show (gs.setIfInBounds 0 (Conc.served (core g) (recvd true v true))).size = gs.size by simp]
    refine lt_of_phi hlt hs (S' := S') (s1 := .rv (rs ++ [k])) (wk := false) (sh := S.shut) rfl (fun x hx hp hne => absurd (h.pks x hx hp) hne) ?_
    have h1 := stale_same (c := c) (S := S) (S' := S') (s1 := .rv (rs ++ [k])) (wk := false) (sh := S.shut) (i0 := 0) rfl (by omega) S.v
    show 4 * (c.N - S.nx) + tl.length + 2 + (if S.cl then stale S.v (S'.stg (c.b + c.n)) else 0) < 4 * (c.N - S.nx) + S.bf.length + 2 + _
    rw [h1, hbf]
    simp
theorem recvPull (L : Laws c) (h : Inv c Shun S gs w t) {rs : List Nat} {k : Nat} {v : Value} {tl : List (Nat × Value)} (hg : gs[0]? = some g) (hs : S.stg 0 = .rv rs) (hA : AtRecv c rs (Deaf t 0) (S.lay.own 0) g w) (hbf : S.bf = (k, v) :: tl) (hpos : 0 < (sumTo gs.size fun i => pC (S.stg i))) : Goal c Shun S gs w sl t 0 := by
  have A := h.ari
  have hsz := h.sits.size
  have hb := A.b
  have hlt : 0 < gs.size := (Array.getElem?_eq_some_iff.1 hg).1
  obtain ⟨h1, h2, z, e, k1, k2⟩ := hA
  obtain ⟨full, nsh⟩ := A.pkw hpos
  have hch := h.hea.ch
  have parts : ∀ j kx, (j, kx) ∈ partners (gs.setIfInBounds 0 ph) c.C true → kx = 0 ∧ j ≠ 0 ∧ pC (S.stg j) = 1 ∧ j < gs.size := by
    intro j kx hm
    obtain ⟨x, hx, hm⟩ := mem_partners.1 hm
    rcases getElem?_stand gs 0 j x hx with ⟨_, rfl⟩ | ⟨hne, hj⟩
    · cases hm
    · have := (h.sits.sit j x hj).offers.1
      rw [this] at hm
      rcases pC_01 (S.stg j) with h0 | h0
      · rw [h0] at hm; simp at hm
      · rw [h0] at hm
        simp at hm
        exact ⟨hm, hne, h0, (Array.getElem?_eq_some_iff.1 hj).1⟩
  have hne : partners (gs.setIfInBounds 0 ph) c.C true ≠ [] := by
    intro hnil
    have : (sumTo gs.size fun i => pC (S.stg i)) ≤ sumTo gs.size fun _ => 0 := sum_le fun j hj => by
      rcases pC_01 (S.stg j) with h0 | h0
      · omega
      · exfalso
        obtain ⟨x, hx⟩ : ∃ x, gs[j]? = some x := ⟨gs[j], Array.getElem?_eq_getElem hj⟩
        have hj0 : j ≠ 0 := by rintro rfl; rw [hs] at h0; cases h0
        have : (j, 0) ∈ partners (gs.setIfInBounds 0 ph) c.C true := mem_partners.2 ⟨x, stand_get hj0 hx, by rw [(h.sits.sit j x hx).offers.1, h0]; simp⟩
        rw [hnil] at this
        cases this
    have z0 : ∀ m, (sumTo m fun _ => 0) = 0 := fun m => by induction m with
      | zero => rfl
      | succ m ih => simp only [sumTo, ih]
    have := z0 gs.size
    omega
  obtain ⟨j, gj, vj, zj, shj, d, hj0, hgj, hrun⟩ := recv_pull (sl := sl) hg (show stepG c.P (0 == 0) g w = _ from e) hch (by simp [hbf]) hne (fun j kx hm => by
    obtain ⟨q1, q2, q3, q4⟩ := parts j kx hm
    obtain ⟨x, hx⟩ : ∃ x, gs[j]? = some x := ⟨gs[j], Array.getElem?_eq_getElem q4⟩
    have ok := h.sits.sit j x hx
    have hK : ∃ m, S.stg j = .K m := by
      revert q3
      cases S.stg j <;> simp [pC]
    obtain ⟨m, hK⟩ := hK
    rw [hK] at ok
    obtain ⟨_, _, g0, z0, v0, e0, _⟩ := ok
    exact ⟨q1, q2, core g0, v0, z0, .send, by rw [hx, e0]⟩)
  have hjlt : j < gs.size := (Array.getElem?_eq_some_iff.1 hgj).1
  have okj := h.sits.sit j _ hgj
  have hpj : pC (S.stg j) = 1 := by
    rcases pC_01 (S.stg j) with h0 | h0
    · have := okj.offers.1
      rw [h0, offersAt_parked_send, if_pos rfl] at this
      simp at this
    · exact h0
  obtain ⟨i, hi, rfl⟩ := h.pW hjlt hpj
  obtain ⟨m, hK⟩ : ∃ m, S.stg (c.b + i) = .K m := by
    revert hpj
    cases S.stg (c.b + i) <;> simp [pC]
  rw [hK] at okj
  obtain ⟨_, hdj, g0, z0, v0, e0, hitj, hlpj⟩ := okj
  have eg : gj = core g0 ∨ True := .inr trivial
  have eoff := congrArg Goroutine.offers e0
  simp only [parked, Option.some.injEq, Prod.mk.injEq] at eoff
  obtain ⟨ec, rfl⟩ := eoff
  simp only [scase, Array.mk.injEq, List.cons.injEq, CommCase.mk.injEq, Option.some.injEq, and_true, true_and] at ec
  obtain ⟨rfl, rfl⟩ := ec
  have esv : Conc.served gj undef = Conc.served (core g0) undef := by
    have q1 := congrArg Goroutine.frame e0
    have q2 := congrArg Goroutine.callers e0
    have q3 := congrArg Goroutine.dying e0
    simp only [parked] at q1 q2 q3
    unfold Conc.served
    obtain ⟨a1, a2, a3, a4, a5⟩ := gj
    simp only at q1 q2 q3
    subst q1 q2 q3
    rfl
  rw [finishComm_recv, finishComm_send, none_ops, esv, show ((S.bf.map (·.2)).toArray.getD 0 undef) = v by simp [hbf], show ((S.bf.map (·.2)).toArray.extract 1 (S.bf.map (·.2)).toArray.size).push vj = ((tl ++ [(m, vj)]).map (·.2)).toArray by simp [hbf, List.take_of_length_le]] at hrun
  have o : OnC c w ((w.at d).setChan c.C c.n ((tl ++ [(m, vj)]).map (·.2)).toArray S.shut (S.s + 1) (S.r + 1) false) := OnC.chan c w d _ _ _ _
  have hch' : ChAt c ((w.at d).setChan c.C c.n ((tl ++ [(m, vj)]).map (·.2)).toArray S.shut (S.s + 1) (S.r + 1) false) ((tl ++ [(m, vj)]).map (·.2)).toArray S.shut (S.s + 1) (S.r + 1) := OnC.at_ c w d _ _ _ _ (h.tra.sbLt _ (.inr (.inr rfl)))
  have lv := h.hea.livC o hch'
  generalize hw' : (w.at d).setChan c.C c.n ((tl ++ [(m, vj)]).map (·.2)).toArray S.shut (S.s + 1) (S.r + 1) false = w' at *
  have T := h.tra
  obtain ⟨f1, f2⟩ := A.fresh_ (by rw [hs]) hbf
  have hit : c.Item k v (S.lay.fl S.r) w' := L.item _ _ _ _ _ (o.rely T lv fun b hb' hs' => T.ap.fs _ b hb' (T.sb ▸ hs')) (by have := h.hea.items 0 k v (by rw [hbf]; rfl); simpa using this)
  have hmp := k1 k v (S.lay.fl S.r) w' f1 f2 (o.rely T lv fun b hb' hs' => T.ap.os 0 b hb' (T.sb ▸ hs')) hit fun b hb' => ⟨by rw [o.size]; exact (T.fl _ b hb').1, fun hc => T.ap.fc _ b hb' (T.cold ▸ hc), fun hs' => T.ap.fs _ b hb' (T.sb ▸ hs'), fun ho => T.ap.of 0 _ b ho hb'⟩
  obtain ⟨kk, hkk⟩ := (L.mp _ _ _ _ hmp).rank
  obtain ⟨kj, hkj⟩ := (L.lp _ _ (hlpj w' (o.rely T lv fun b hb => hb.elim))).rank
  generalize hu : (#[{ g := 0, fn := (core g).frame.fn, pos := (core g).frame.place, act := .recv c.C S.r c.n }, { g := 0, fn := (core g).frame.fn, pos := (core g).frame.place, act := .recvDone c.C S.r }, { g := c.b + i, fn := gj.frame.fn, pos := gj.frame.place, act := .send c.C S.s }, { g := c.b + i, fn := gj.frame.fn, pos := gj.frame.place, act := .sendDone c.C S.s }] : Trace) = u at hrun
  have hstill : ∀ op ∈ u, Still op := by subst hu; exact four_still ⟨rfl, fun m e => by cases e⟩ ⟨rfl, fun m e => by cases e⟩ ⟨rfl, fun m e => by cases e⟩ ⟨rfl, fun m e => by cases e⟩
  have hC := T.sbLt c.C (.inr (.inr rfl))
  have hlow : ∀ op ∈ u, op.act.low w.heap.size ∧ op.act ≠ .mark (.release ⟨c.Wg, 0, none⟩) := by
    subst hu
    intro op hop
    simp only [List.mem_toArray, List.mem_cons, List.not_mem_nil, or_false] at hop
    rcases hop with rfl | rfl | rfl | rfl
    · exact ⟨hC, by simp⟩
    · exact ⟨hC, by simp⟩
    · exact ⟨hC, by simp⟩
    · exact ⟨hC, by simp⟩
  have hlen := h.hea.len
  have hn1 := L.n1
  have hsr : S.s ≠ S.r := by rw [hbf] at hlen; simp at hlen; omega
  let own' := upd (upd S.lay.own 0 (fun b => S.lay.own 0 b ∨ S.lay.fl S.r b)) (c.b + i) None
  let fl' := fun n b => (S.lay.fl n b ∨ (n = S.s ∧ S.lay.own (c.b + i) b)) ∧ n ≠ S.r
  let S' : St := { S with stg := nxt (nxt S.stg 0 (.rv (rs ++ [k])) false S.shut) (c.b + i) .L false S.shut, rk := upd (upd S.rk 0 kk) (c.b + i) kj, bf := tl ++ [(m, vj)], s := S.s + 1, r := S.r + 1, lay := { S.lay with own := own', fl := fl' } }
  have hown : ∀ g b, own' g b → g ≠ c.b + i ∧ (S.lay.own g b ∨ (g = 0 ∧ S.lay.fl S.r b)) := fun g b hb' => by
    have hb' : upd (upd S.lay.own 0 (fun b => S.lay.own 0 b ∨ S.lay.fl S.r b)) (c.b + i) None g b := hb'
    by_cases e1 : g = c.b + i
    · subst e1; rw [upd_same] at hb'; exact hb'.elim
    · rw [upd_ne _ _ e1] at hb'
      refine ⟨e1, ?_⟩
      by_cases e : g = 0
      · subst e
        rw [upd_same] at hb'; exact hb'.imp id fun x => ⟨rfl, x⟩
      · rw [upd_ne _ _ e] at hb'; exact .inl hb'
  have ap : S'.lay.Apart := by
    have A := T.ap
    refine ⟨fun g g' b h1 h2 => ?_, fun g n b h1 h2 => ?_, fun g b h1 => ?_, fun g b h1 => ?_, fun n n' b h1 h2 => ?_, fun n b h1 => ?_, fun n b h1 => ?_, A.cs⟩
    · rcases (hown g b h1).2 with h1 | ⟨e1, h1⟩ <;> rcases (hown g' b h2).2 with h2 | ⟨e2, h2⟩
      · exact A.oo g g' b h1 h2
      · exact absurd h2 (A.of g _ b h1)
      · exact absurd h1 (A.of g' _ b h2)
      · rw [e1, e2]
    · obtain ⟨hne, hx⟩ := hown g b h1
      rcases hx with h1 | ⟨_, h1⟩ <;> rcases h2 with ⟨h2 | ⟨_, h2⟩, h3⟩
      · exact A.of g n b h1 h2
      · exact hne (A.oo g _ b h1 h2)
      · exact h3 (A.ff _ _ b h2 h1)
      · exact A.of _ _ b h2 h1
    · rcases (hown g b h1).2 with h1 | ⟨_, h1⟩
      · exact A.oc g b h1
      · exact A.fc _ b h1
    · rcases (hown g b h1).2 with h1 | ⟨_, h1⟩
      · exact A.os g b h1
      · exact A.fs _ b h1
    · rcases h1 with ⟨h1 | ⟨e1, h1⟩, _⟩ <;> rcases h2 with ⟨h2 | ⟨e2, h2⟩, _⟩
      · exact A.ff n n' b h1 h2
      · exact absurd h1 (A.of _ n b h2)
      · exact absurd h2 (A.of _ n' b h1)
      · rw [e1, e2]
    · rcases h1 with ⟨h1 | ⟨_, h1⟩, _⟩
      · exact A.fc n b h1
      · exact A.oc _ b h1
    · rcases h1 with ⟨h1 | ⟨_, h1⟩, _⟩
      · exact A.fs n b h1
      · exact A.os _ b h1
  have hat : ∀ q (op : MemOp), u[q]? = some op → (t ++ u)[t.size + q]? = some op := fun q op hq => by
    rw [Array.getElem?_append_right (by omega), show t.size + q - t.size = q by omega]; exact hq
  have a0 := hat 0 _ (by rw [← hu]; rfl)
  have a1 := hat 1 _ (by rw [← hu]; rfl)
  have a2 := hat 2 _ (by rw [← hu]; rfl)
  have d0 : ∀ x, (t ++ u).deaf x (t.size + 1) = Deaf t x := fun x => by rw [deaf_succ (by simpa using a0), deaf_old (Nat.le_refl _)]; rfl
  have d1 : ∀ x, (t ++ u).deaf x (t.size + 2) = Deaf t x := fun x => by rw [deaf_succ a1, d0]; rfl
  refine ⟨S', _, _, u, hrun, ⟨⟨fun q x hx => ?_, fun q hq => ?_, by simpa using hsz⟩, ?_, ?_, ?_⟩, ?_⟩
  · show Ok c (nxt (nxt S.stg 0 (.rv (rs ++ [k])) false S.shut) (c.b + i) .L false S.shut q) (upd (upd S.rk 0 kk) (c.b + i) kj q) _ (own' q) _ _
    by_cases e0 : q = 0
    · subst e0
      rw [Array.getElem?_setIfInBounds_self_of_lt (by simpa using hlt)] at hx
      cases hx
      have o0 : own' 0 = fun b => S.lay.own 0 b ∨ S.lay.fl S.r b := by
        show upd (upd S.lay.own 0 _) (c.b + i) None 0 = _
        rw [upd_ne _ _ (by omega), upd_same]
      rw [nxt_ne _ _ _ _ (by omega), nxt_self, upd_ne _ _ (by omega), upd_same, o0, Deaf_still hstill, h2]
      exact hkk
    · rw [Array.getElem?_setIfInBounds_ne (fun x => e0 x.symm)] at hx
      by_cases ej : q = c.b + i
      · subst ej
        rw [Array.getElem?_setIfInBounds_self_of_lt hjlt] at hx
        cases hx
        have o0 : own' (c.b + i) = None := by
          show upd (upd S.lay.own 0 _) (c.b + i) None (c.b + i) = _
          rw [upd_same]
        rw [nxt_self, upd_same, o0, Deaf_still hstill, hdj]
        exact hkj
      · rw [Array.getElem?_setIfInBounds_ne (fun x => ej x.symm)] at hx
        have o0 : own' q = S.lay.own q := by
          show upd (upd S.lay.own 0 _) (c.b + i) None q = _
          rw [upd_ne _ _ ej, upd_ne _ _ e0]
        rw [nxt_ne _ _ _ _ ej, nxt_ne _ _ _ _ e0, upd_ne _ _ ej, upd_ne _ _ e0, o0]
        exact h.others o lv hch' (fun _ _ _ => nsh) hstill hx
  · rw [Deaf_still hstill]; exact h.sits.above q (by simpa using hq)
  · refine T.put (S' := S') o (fun op hop => (hstill op hop).1) rfl ap rfl rfl (fun j hj ho => ?_) (fun hcl => ?_) (fun g b hb' => ?_) (fun n b hb' => ?_) ?_
    · have ho : out (nxt (nxt S.stg 0 (.rv (rs ++ [k])) false S.shut) (c.b + i) .L false S.shut (c.b + j)) = true := ho
      by_cases ej : j = i
      · subst ej; rw [nxt_self] at ho; cases ho
      · rw [nxt_ne _ _ _ _ (by omega), nxt_ne _ _ _ _ (by omega)] at ho; exact ho
    · show nxt (nxt S.stg 0 (.rv (rs ++ [k])) false S.shut) (c.b + i) .L false S.shut (c.b + c.n) = _
      rw [nxt_ne _ _ _ _ (by have := (A.cs hcl).1; omega), nxt_ne _ _ _ _ (by omega)]; rfl
    · rcases (hown g b hb').2 with h1 | ⟨rfl, h1⟩
      · exact T.own g b h1
      · exact ⟨(T.fl _ b h1).1, .inl rfl⟩
    · rcases hb' with ⟨hb' | ⟨rfl, hb'⟩, hne⟩
      · obtain ⟨q1, q2, q3⟩ := T.fl n b hb'
        exact ⟨q1, (by omega : S.r + 1 ≤ n), (by omega : n < S.s + 1)⟩
      · exact ⟨(T.own _ b hb').1, (by rw [hbf] at hlen; simp at hlen; omega : S.r + 1 ≤ S.s), (by omega : S.s < S.s + 1)⟩
    · have gv := T.pt.give (u := u) (fun op hop => (hstill op hop).1) (fun op hop => (hlow op hop).1) (fun op hop => (hlow op hop).2) (g := c.b + i) (k := S.s) (p := t.size + 2) (by omega) a2 rfl rfl ⟨c.b + i, by simp [Trace.g?, a2], by rw [d1]; exact hdj⟩ (own' := upd S.lay.own (c.b + i) None) (fl' := fun n b => S.lay.fl n b ∨ (n = S.s ∧ S.lay.own (c.b + i) b)) (fun g b hb' => by
        by_cases e : g = c.b + i
        · subst e; rw [upd_same] at hb'; exact hb'.elim
        · rw [upd_ne _ _ e] at hb'; exact hb') (fun n b hb' => hb')
      refine gv.take (k := S.r) (q := t.size + 1) (by rw [act?_of a1]; rfl) (by simp [Trace.g?, a1]) ⟨0, by simp [Trace.g?, a1], by rw [d0]; exact h2⟩ (fun n b hb' => hb'.1) (fun g b hb' => ?_)
      obtain ⟨hne, hx⟩ := hown g b hb'
      rcases hx with h1 | ⟨e, h1⟩
      · refine .inl ?_
        show upd S.lay.own (c.b + i) None g b
        rw [upd_ne _ _ hne]; exact h1
      · exact .inr ⟨e, .inl h1⟩
  · refine h.hea.mk_ L T o lv ⟨rfl, rfl, rfl, rfl⟩ hch' ?_ ?_ (fun n kn vn hn => ?_)
    · show S.s + 1 = S.r + 1 + (tl ++ [(m, vj)]).length
      rw [hbf] at hlen
      simp at hlen ⊢
      omega
    · show (tl ++ [(m, vj)]).length ≤ c.n
      rw [hbf] at full
      simp at full ⊢
      omega
    · have hn : (tl ++ [(m, vj)])[n]? = some (kn, vn) := hn
      show c.Item kn vn (fun b => (S.lay.fl (S.r + 1 + n) b ∨ (S.r + 1 + n = S.s ∧ S.lay.own (c.b + i) b)) ∧ S.r + 1 + n ≠ S.r) w'
      rw [hbf] at hlen
      simp at hlen
      rcases Nat.lt_or_ge n tl.length with hlt' | hge
      · rw [List.getElem?_append_left hlt'] at hn
        have e : (fun b => (S.lay.fl (S.r + 1 + n) b ∨ (S.r + 1 + n = S.s ∧ S.lay.own (c.b + i) b)) ∧ S.r + 1 + n ≠ S.r) = S.lay.fl (S.r + (n + 1)) := by
          funext b
          refine propext ⟨fun x => ?_, fun x => ⟨.inl ?_, by omega⟩⟩
          · rcases x.1 with y | ⟨y, _⟩
            · rwa [show S.r + (n + 1) = S.r + 1 + n by omega]
            · omega
          · rwa [show S.r + 1 + n = S.r + (n + 1) by omega]
        rw [e]
        exact L.item _ _ _ _ _ (o.rely T lv fun b hb' hs' => T.ap.fs _ b hb' (T.sb ▸ hs')) (h.hea.items (n + 1) kn vn (by rw [hbf]; exact hn))
      · rw [List.getElem?_append_right hge] at hn
        have hn0 : n = tl.length := by
          have := (List.getElem?_eq_some_iff.1 hn).1
          simp at this
          omega
        subst hn0
        simp at hn
        obtain ⟨rfl, rfl⟩ := hn
        have e : (fun b => (S.lay.fl (S.r + 1 + tl.length) b ∨ (S.r + 1 + tl.length = S.s ∧ S.lay.own (c.b + i) b)) ∧ S.r + 1 + tl.length ≠ S.r) = S.lay.own (c.b + i) := by
          funext b
          refine propext ⟨fun x => ?_, fun x => ⟨.inr ⟨by omega, x⟩, by omega⟩⟩
          rcases x.1 with y | ⟨_, y⟩
          · have := (T.fl _ b y).2.2
            omega
          · exact y
        rw [e]
        exact hitj w' (o.rely T lv fun b hb' hs' => T.ap.os _ b hb' (T.sb ▸ hs'))
  · rw [show ((gs.setIfInBounds (c.b + i) (Conc.served (core g0) undef)).setIfInBounds 0 (Conc.served (core g) (recvd true v true))).size = gs.size by simp]
    exact A.pull (S' := S') hsz hi hs hK hbf rfl rfl rfl rfl rfl rfl rfl rfl rfl
  · rw [show ((gs.setIfInBounds (c.b + i) (Conc.served (core g0) undef)).setIfInBounds 0 (Conc.served (core g) (recvd true v true))).size = gs.size by simp]
    refine Lt.phi ?_
    unfold Phi
    have e1 := sum_wgt (stg := S.stg) (m := gs.size) (.rv (rs ++ [k])) false S.shut hlt (fun x hx hp hne => absurd (h.pks x hx hp) hne)
    have e2 := sum_wgt (stg := nxt S.stg 0 (.rv (rs ++ [k])) false S.shut) (m := gs.size) .L false S.shut hjlt (fun x hx hp hne => nsh)
    rw [hs] at e1
    rw [nxt_ne _ _ _ _ (by omega), show wake false S.shut (S.stg (c.b + i)) = S.stg (c.b + i) from rfl, hK] at e2
    have q1 : wgt (.rv rs) = 2 := rfl
    have q2 : wgt (.rv (rs ++ [k])) = 2 := rfl
    have q3 : wgt (.K m) = 10 := rfl
    have q4 : wgt .L = 8 := rfl
    have hst : S.cl = true → S'.stg (c.b + c.n) = S.stg (c.b + c.n) := fun hcl => by
      show nxt (nxt S.stg 0 (.rv (rs ++ [k])) false S.shut) (c.b + i) .L false S.shut (c.b + c.n) = _
      rw [nxt_ne _ _ _ _ (by have := (A.cs hcl).1; omega), nxt_ne _ _ _ _ (by omega)]; rfl
    show 4 * (c.N - S.nx) + (tl ++ [(m, vj)]).length + (sumTo gs.size fun x => wgt (nxt (nxt S.stg 0 (.rv (rs ++ [k])) false S.shut) (c.b + i) .L false S.shut x)) + (if S.cl then stale S.v (S'.stg (c.b + c.n)) else 0) < 4 * (c.N - S.nx) + S.bf.length + (sumTo gs.size fun x => wgt (S.stg x)) + (if S.cl then stale S.v (S.stg (c.b + c.n)) else 0)
    have hl : (tl ++ [(m, vj)]).length = S.bf.length := by rw [hbf]; simp
    rw [hl]
    cases hcl : S.cl with
    | false => simp only [Bool.false_eq_true, if_false]; omega
    | true => rw [hst hcl]; omega
end
end Pool
end Go.Proofs.YtdkpbobglogmoaaGreat
