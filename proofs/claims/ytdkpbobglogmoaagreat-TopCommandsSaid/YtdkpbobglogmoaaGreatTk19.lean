/- Parts of the proof of TopCommandsProof: PoolCom4 PoolRun PoolEnd. -/
import Derived.Test.YtdkpbobglogmoaaGreatTk18
set_option linter.unusedVariables false
set_option linter.unusedSimpArgs false
set_option maxRecDepth 100000
set_option maxHeartbeats 32000000
namespace Go.Proofs.YtdkpbobglogmoaaGreat
open Go Go.Conc
open Go.ConcR (KK wgBlock WgAt stA smA rd wr mk)
open Go.ConcN (sumTo upd sumTo_upd upd_ne upd_same sumTo_congr le_sumTo)
namespace Pool
open Ren (Loc.blk Rely Gt Gk Rk Terms Did EvO New With)
variable {c : Cfg} {Shun : Loc → Prop}
section
variable {S : St} {gs : Array Goroutine} {w w' : World} {sl : Option (Nat × Nat)} {t u : Trace} {g : Goroutine}
theorem served_of {gj g0 : Goroutine} {cs cs' : Array CommCase} {sh sh' : CommShape} (e : parked gj cs sh = parked (core g0) cs' sh') (v : Value) : Conc.served gj v = Conc.served (core g0) v := by
  have q1 := congrArg Goroutine.frame e
  have q2 := congrArg Goroutine.callers e
  have q3 := congrArg Goroutine.dying e
  simp only [parked] at q1 q2 q3
  unfold Conc.served
  obtain ⟨a1, a2, a3, a4, a5⟩ := gj
  simp only at q1 q2 q3
  subst q1 q2 q3
  rfl
theorem sendMeets (L : Laws c) (h : Inv c Shun S gs w t) {i k : Nat} {rs : List Nat} (hi : i < S.j) (hg : gs[c.b + i]? = some g) (hs : S.stg (c.b + i) = .S k) (hA : AtSend c k (Deaf t (c.b + i)) (S.lay.own (c.b + i)) g w) (hm : S.stg 0 = .pk rs) : Goal c Shun S gs w sl t (c.b + i) := by
  have A := h.ari
  have hsz := h.sits.size
  have hb := A.b
  have hlt : c.b + i < gs.size := (Array.getElem?_eq_some_iff.1 hg).1
  have h0lt : 0 < gs.size := by omega
  obtain ⟨h1, h2, z, v, e, hit, hlp⟩ := hA
  rw [show false = ((c.b + i) == 0) by simp; omega] at e
  obtain ⟨hbf, nsh⟩ := A.pkm (by rw [hm]; rfl)
  have hch := h.hea.ch
  rw [nsh, hbf] at hch
  obtain ⟨x0, hx0⟩ : ∃ x, gs[0]? = some x := ⟨gs[0], Array.getElem?_eq_getElem h0lt⟩
  have ok0 := h.sits.sit 0 x0 hx0
  rw [hm] at ok0
  obtain ⟨_, g0, z0, hrv, rfl, w0, ecm⟩ := ok0
  have parts : ∀ j kx, (j, kx) ∈ partners (gs.setIfInBounds (c.b + i) ph) c.C false → kx = 0 ∧ j = 0 := by
    intro j kx hp
    obtain ⟨x, hx, hp⟩ := mem_partners.1 hp
    rcases getElem?_stand gs _ j x hx with ⟨_, rfl⟩ | ⟨hne, hj⟩
    · cases hp
    · have := (h.sits.sit j x hj).offers.2
      rw [this] at hp
      by_cases hpk : isPk (S.stg j) = true
      · rw [if_pos hpk] at hp
        simp at hp
        exact ⟨hp, h.pks j (Array.getElem?_eq_some_iff.1 hj).1 hpk⟩
      · rw [if_neg hpk] at hp; cases hp
  have hne : partners (gs.setIfInBounds (c.b + i) ph) c.C false ≠ [] := by
    have : (0, 0) ∈ partners (gs.setIfInBounds (c.b + i) ph) c.C false := mem_partners.2 ⟨_, stand_get (by omega) hx0, by rw [offersAt_parked_recv]; simp⟩
    intro hnil
    rw [hnil] at this
    cases this
  obtain ⟨j, gj, zj, shj, d, hji, hgj, hrun⟩ := crowd_send_meets_some (sl := sl) hg e hch hne (fun j kx hp => by
    obtain ⟨q1, rfl⟩ := parts j kx hp
    exact ⟨q1, by omega, core g0, z0, .recv true, hx0⟩)
  have hjlt : j < gs.size := (Array.getElem?_eq_some_iff.1 hgj).1
  have okj := h.sits.sit j _ hgj
  have hpj : isPk (S.stg j) = true := by
    apply Classical.byContradiction
    intro hn
    have := okj.offers.2
    rw [if_neg hn, offersAt_parked_recv, if_pos rfl] at this
    cases this
  obtain rfl := h.pks j hjlt hpj
  rw [hx0] at hgj
  have e0 : parked gj #[rcase c.C zj] shj = parked (core g0) #[rcase c.C z0] (.recv true) := (Option.some.inj hgj).symm
  have eoff := congrArg Goroutine.offers e0
  simp only [parked, Option.some.injEq, Prod.mk.injEq] at eoff
  obtain ⟨ec, rfl⟩ := eoff
  rw [finishComm_send, finishComm_recv, none_ops, served_of e0] at hrun
  have o : OnC c w ((w.at d).setChan c.C c.n #[] false (S.s + 1) (S.r + 1) false) := OnC.chan c w d _ _ _ _
  have hch' : ChAt c ((w.at d).setChan c.C c.n #[] false (S.s + 1) (S.r + 1) false) #[] false (S.s + 1) (S.r + 1) := OnC.at_ c w d _ _ _ _ (h.tra.sbLt _ (.inr (.inr rfl)))
  have hrun' : runT c.P (crowd gs w sl) (c.b + i) = (.next (crowd ((gs.setIfInBounds 0 (Conc.served (core g0) (recvd true v true))).setIfInBounds (c.b + i) (Conc.served (core g) undef)) ((w.at d).setChan c.C c.n #[] false (S.s + 1) (S.r + 1) false) sl), _) := hrun
  have lv := h.hea.livC o hch'
  generalize hw' : (w.at d).setChan c.C c.n #[] false (S.s + 1) (S.r + 1) false = w' at *
  have T := h.tra
  have hlen := h.hea.len
  rw [hbf] at hlen
  simp at hlen
  have cnt := A.count k
  have hk1 : 1 ≤ sumTo gs.size fun i => kC k (S.stg i) := by
    have b1 : kC k (S.stg (c.b + i)) ≤ sumTo gs.size fun i => kC k (S.stg i) := le_sumTo (f := fun i => kC k (S.stg i)) hlt
    rw [hs] at b1
    simp only [kC, if_true] at b1
    exact b1
  have f1 : k < S.nx ∧ k < c.N := by
    apply Classical.byContradiction
    intro hc
    rw [if_neg hc] at cnt
    omega
  have f2 : k ∉ rs := fun hmem => by
    rw [if_pos f1, hm] at cnt
    have := List.count_pos_iff.2 hmem
    simp only [rsOf] at cnt
    omega
  obtain ⟨h01, h02, z', e', k1, k2⟩ := hrv w (Rely.refl w)
  have hit' : c.Item k v (S.lay.own (c.b + i)) w' := L.item _ _ _ _ _ (o.rely T lv fun b hb' hs' => T.ap.os _ b hb' (T.sb ▸ hs')) hit
  have hmp := k1 k v (S.lay.own (c.b + i)) w' f1.2 f2 (o.rely T lv fun b hb' hs' => T.ap.os 0 b hb' (T.sb ▸ hs')) hit' fun b hb' => ⟨by rw [o.size]; exact (T.own _ b hb').1, fun hc => T.ap.oc _ b hb' (T.cold ▸ hc), fun hs' => T.ap.os _ b hb' (T.sb ▸ hs'), fun ho => by have := T.ap.oo 0 _ b ho hb'; omega⟩
  obtain ⟨kk, hkk⟩ := (L.mp _ _ _ _ hmp).rank
  obtain ⟨kj, hkj⟩ := (L.lp _ _ (hlp w' (o.rely T lv fun b hb => hb.elim))).rank
  generalize hu : (#[{ g := c.b + i, fn := (core g).frame.fn, pos := (core g).frame.place, act := .send c.C S.s }, { g := 0, fn := gj.frame.fn, pos := gj.frame.place, act := .recv c.C S.r c.n }, { g := c.b + i, fn := (core g).frame.fn, pos := (core g).frame.place, act := .sendDone c.C S.s }, { g := 0, fn := gj.frame.fn, pos := gj.frame.place, act := .recvDone c.C S.r }] : Trace) = u at hrun'
  have hstill : ∀ op ∈ u, Still op := by subst hu; exact four_still ⟨rfl, fun m e => by cases e⟩ ⟨rfl, fun m e => by cases e⟩ ⟨rfl, fun m e => by cases e⟩ ⟨rfl, fun m e => by cases e⟩
  have hC := T.sbLt c.C (.inr (.inr rfl))
  have hlow : ∀ op ∈ u, op.act.low w.heap.size ∧ op.act ≠ .mark (.release ⟨c.Wg, 0, none⟩) := by
    subst hu
    intro op hop
    simp only [List.mem_toArray, List.mem_cons, List.not_mem_nil, or_false] at hop
    rcases hop with rfl | rfl | rfl | rfl
    · exact ⟨hC, by simp⟩
    · exact ⟨hC, by simp⟩
    · exact ⟨hC, by simp⟩
    · exact ⟨hC, by simp⟩
  let own' := upd (upd S.lay.own 0 (fun b => S.lay.own 0 b ∨ S.lay.own (c.b + i) b)) (c.b + i) None
  let S' : St := { S with stg := nxt (nxt S.stg 0 (.rv (rs ++ [k])) false S.shut) (c.b + i) .L false S.shut, rk := upd (upd S.rk 0 kk) (c.b + i) kj, s := S.s + 1, r := S.r + 1, lay := { S.lay with own := own', fl := fun _ _ => False } }
  have nofl : ∀ n b, ¬ S.lay.fl n b := fun n b hf => by have := T.fl n b hf; omega
  have hown : ∀ g b, own' g b → g ≠ c.b + i ∧ (S.lay.own g b ∨ (g = 0 ∧ S.lay.own (c.b + i) b)) := fun g b hb' => by
    have hb' : upd (upd S.lay.own 0 (fun b => S.lay.own 0 b ∨ S.lay.own (c.b + i) b)) (c.b + i) None g b := hb'
    by_cases e1 : g = c.b + i
    · subst e1; rw [upd_same] at hb'; exact hb'.elim
    · rw [upd_ne _ _ e1] at hb'
      refine ⟨e1, ?_⟩
      by_cases e : g = 0
      · subst e
        rw [upd_same] at hb'; exact hb'.imp id fun x => ⟨rfl, x⟩
      · rw [upd_ne _ _ e] at hb'; exact .inl hb'
  have ap : S'.lay.Apart := by
    have A := T.ap
    refine ⟨fun g g' b h1 h2 => ?_, fun g n b h1 h2 => h2.elim, fun g b h1 => ?_, fun g b h1 => ?_, fun n n' b h1 h2 => h1.elim, fun n b h1 => h1.elim, fun n b h1 => h1.elim, A.cs⟩
    · obtain ⟨n1, h1⟩ := hown g b h1
      obtain ⟨n2, h2⟩ := hown g' b h2
      rcases h1 with h1 | ⟨e1, h1⟩ <;> rcases h2 with h2 | ⟨e2, h2⟩
      · exact A.oo g g' b h1 h2
      · exact absurd (A.oo g _ b h1 h2) n1
      · exact absurd (A.oo g' _ b h2 h1) n2
      · rw [e1, e2]
    · rcases (hown g b h1).2 with h1 | ⟨_, h1⟩
      · exact A.oc g b h1
      · exact A.oc _ b h1
    · rcases (hown g b h1).2 with h1 | ⟨_, h1⟩
      · exact A.os g b h1
      · exact A.os _ b h1
  have hat : ∀ q (op : MemOp), u[q]? = some op → (t ++ u)[t.size + q]? = some op := fun q op hq => by
    rw [Array.getElem?_append_right (by omega), show t.size + q - t.size = q by omega]; exact hq
  have a0 := hat 0 _ (by rw [← hu]; rfl)
  have a1 := hat 1 _ (by rw [← hu]; rfl)
  have a2 := hat 2 _ (by rw [← hu]; rfl)
  have a3 := hat 3 _ (by rw [← hu]; rfl)
  have d1 : ∀ x, (t ++ u).deaf x (t.size + 1) = Deaf t x := fun x => by rw [deaf_succ (by simpa using a0), deaf_old (Nat.le_refl _)]; rfl
  have d2 : ∀ x, (t ++ u).deaf x (t.size + 2) = Deaf t x := fun x => by rw [deaf_succ a1, d1]; rfl
  have d3 : ∀ x, (t ++ u).deaf x (t.size + 3) = Deaf t x := fun x => by rw [deaf_succ a2, d2]; rfl
  obtain ⟨ph1, ph2⟩ := A.ph
  rw [hm] at ph1 ph2
  refine ⟨S', _, _, u, hrun', ⟨⟨fun q x hx => ?_, fun q hq => ?_, by simpa using hsz⟩, ?_, ?_, ?_⟩, ?_⟩
  · show Ok c (nxt (nxt S.stg 0 (.rv (rs ++ [k])) false S.shut) (c.b + i) .L false S.shut q) (upd (upd S.rk 0 kk) (c.b + i) kj q) _ (own' q) _ _
    by_cases ej : q = c.b + i
    · subst ej
      rw [Array.getElem?_setIfInBounds_self_of_lt (by simpa using hlt)] at hx
      cases hx
      have o0 : own' (c.b + i) = None := by
        show upd (upd S.lay.own 0 _) (c.b + i) None (c.b + i) = _
        rw [upd_same]
      rw [nxt_self, upd_same, o0, Deaf_still hstill, h2]
      exact hkj
    · rw [Array.getElem?_setIfInBounds_ne (fun x => ej x.symm)] at hx
      by_cases e0 : q = 0
      · subst e0
        rw [Array.getElem?_setIfInBounds_self_of_lt h0lt] at hx
        cases hx
        have o0 : own' 0 = fun b => S.lay.own 0 b ∨ S.lay.own (c.b + i) b := by
          show upd (upd S.lay.own 0 _) (c.b + i) None 0 = _
          rw [upd_ne _ _ (by omega), upd_same]
        rw [nxt_ne _ _ _ _ (by omega), nxt_self, upd_ne _ _ (by omega), upd_same, o0, Deaf_still hstill, h02]
        exact hkk
      · rw [Array.getElem?_setIfInBounds_ne (fun x => e0 x.symm)] at hx
        have o0 : own' q = S.lay.own q := by
          show upd (upd S.lay.own 0 _) (c.b + i) None q = _
          rw [upd_ne _ _ ej, upd_ne _ _ e0]
        rw [nxt_ne _ _ _ _ ej, nxt_ne _ _ _ _ e0, upd_ne _ _ ej, upd_ne _ _ e0, o0]
        exact h.others o lv hch' (fun _ _ _ => rfl) hstill hx
  · rw [Deaf_still hstill]; exact h.sits.above q (by simpa using hq)
  · refine T.put (S' := S') o (fun op hop => (hstill op hop).1) rfl ap rfl rfl (fun j hj ho => ?_) (fun hcl => ?_) (fun g b hb' => ?_) (fun n b hb' => hb'.elim) ?_
    · have ho : out (nxt (nxt S.stg 0 (.rv (rs ++ [k])) false S.shut) (c.b + i) .L false S.shut (c.b + j)) = true := ho
      by_cases ej : j = i
      · subst ej; rw [nxt_self] at ho; cases ho
      · rw [nxt_ne _ _ _ _ (by omega), nxt_ne _ _ _ _ (by omega)] at ho; exact ho
    · show nxt (nxt S.stg 0 (.rv (rs ++ [k])) false S.shut) (c.b + i) .L false S.shut (c.b + c.n) = _
      rw [nxt_ne _ _ _ _ (by have := (A.cs hcl).1; omega), nxt_ne _ _ _ _ (by omega)]; rfl
    · rcases (hown g b hb').2 with h1 | ⟨rfl, h1⟩
      · exact T.own g b h1
      · exact ⟨(T.own _ b h1).1, .inl rfl⟩
    · have gv := T.pt.give (u := u) (fun op hop => (hstill op hop).1) (fun op hop => (hlow op hop).1) (fun op hop => (hlow op hop).2) (g := c.b + i) (k := S.s) (p := t.size) (Nat.le_refl _) (by simpa using a0) rfl rfl ⟨c.b + i, by simp [Trace.g?, show (t ++ u)[t.size]? = _ by simpa using a0], by rw [deaf_old (Nat.le_refl _)]; exact h2⟩ (own' := upd S.lay.own (c.b + i) None) (fl' := fun n b => S.lay.fl n b ∨ (n = S.s ∧ S.lay.own (c.b + i) b)) (fun g b hb' => by
        by_cases e : g = c.b + i
        · subst e; rw [upd_same] at hb'; exact hb'.elim
        · rw [upd_ne _ _ e] at hb'; exact hb') (fun n b hb' => hb')
      refine gv.take (k := S.r) (q := t.size + 3) (by rw [act?_of a3]; rfl) (by simp [Trace.g?, a3]) ⟨0, by simp [Trace.g?, a3], by rw [d3]; exact h02⟩ (fun n b hb' => hb'.elim) (fun g b hb' => ?_)
      obtain ⟨hne, hx⟩ := hown g b hb'
      rcases hx with h1 | ⟨e, h1⟩
      · refine .inl ?_
        show upd S.lay.own (c.b + i) None g b
        rw [upd_ne _ _ hne]; exact h1
      · exact .inr ⟨e, .inr ⟨hlen.symm, h1⟩⟩
  · refine h.hea.mk_ L T o lv ⟨rfl, rfl, rfl, rfl⟩ ?_ ?_ ?_ (fun n kn vn hn => ?_)
    · show ChAt c w' (S.bf.map (·.2)).toArray S.shut (S.s + 1) (S.r + 1)
      rw [hbf, nsh]
      exact hch'
    · show S.s + 1 = S.r + 1 + S.bf.length
      rw [hbf]
      simp
      omega
    · exact h.hea.room
    · have hn : S.bf[n]? = some (kn, vn) := hn
      rw [hbf] at hn
      simp at hn
  · rw [show ((gs.setIfInBounds 0 (Conc.served (core g0) (recvd true v true))).setIfInBounds (c.b + i) (Conc.served (core g) undef)).size = gs.size by simp]
    have A1 : Ari c { S with stg := nxt S.stg 0 (.rv rs) false S.shut } gs.size :=
      A.main (S' := { S with stg := nxt S.stg 0 (.rv rs) false S.shut }) (wk := false) h0lt hm rfl rfl rfl rfl rfl rfl rfl rfl rfl (by have q := A.vj; rw [hm] at q; exact q) ⟨ph1, ph2⟩ (.inl rfl) (fun x => rfl) (fun hp => (A.pkw hp).1) (fun e => by cases e)
    have s1i : (nxt S.stg 0 (.rv rs) false S.shut) (c.b + i) = .S k := by rw [nxt_ne _ _ _ _ (by omega), hs]; rfl
    have A2 : Ari c { S with stg := nxt (nxt S.stg 0 (.rv rs) false S.shut) (c.b + i) .L false S.shut, bf := S.bf ++ [(k, v)] } gs.size := by
      refine A1.worker (S' := { S with stg := nxt (nxt S.stg 0 (.rv rs) false S.shut) (c.b + i) .L false S.shut, bf := S.bf ++ [(k, v)] }) (wk := false) hsz hi s1i rfl rfl rfl rfl rfl rfl (Nat.le_refl _) (.inl (Nat.le_refl _)) (Nat.le_refl _) (Nat.le_refl _) (fun x => ?_) (fun e => by cases e) (fun ck w3 w3' x y x' y' h3 _ hx hy hm => ?_) (fun e => by cases e) (.inr ⟨by simp, by show S.bf.length < c.n; rw [hbf]; simp; have := L.n1; omega⟩) (fun hp => by
        have hp : isPk (nxt S.stg 0 (.rv rs) false S.shut 0) = true := hp
        rw [nxt_self] at hp; cases hp)
      · show ((S.bf ++ [(k, v)]).map (·.1)).count x + kC x .L + (if x < S.nx ∧ x < c.N then 1 else 0) = (S.bf.map (·.1)).count x + kC x (.S k) + (if x < S.nx ∧ x < c.N then 1 else 0)
        have : kC x (.S k) = List.count x [k] := by
          simp only [kC, List.count_cons, List.count_nil, beq_iff_eq]
          split <;> simp
        have q : kC x .L = 0 := rfl
        rw [this, q, List.map_append, List.count_append]
        simp only [List.map_cons, List.map_nil]
        omega
      · have hx : x' = x := hx
        have hy : y' = y := hy
        subst hx hy
        exact mode_keep h3 hm
    have s20 : (nxt (nxt S.stg 0 (.rv rs) false S.shut) (c.b + i) .L false S.shut) 0 = .rv rs := by rw [nxt_ne _ _ _ _ (by omega), nxt_self]; rfl
    have A3 : Ari c { S with stg := nxt (nxt (nxt S.stg 0 (.rv rs) false S.shut) (c.b + i) .L false S.shut) 0 (.rv (rs ++ [k])) false S.shut } gs.size := by
      refine A2.main (S' := { S with stg := nxt (nxt (nxt S.stg 0 (.rv rs) false S.shut) (c.b + i) .L false S.shut) 0 (.rv (rs ++ [k])) false S.shut }) (wk := false) h0lt s20 rfl rfl rfl rfl rfl rfl rfl rfl rfl (by have q := A.vj; rw [hm] at q; exact q) ⟨ph1, ph2⟩ (.inl rfl) (fun x => ?_) (fun hp => ?_) (fun e => by cases e)
      · show (rs ++ [k]).count x + (S.bf.map (·.1)).count x = rs.count x + ((S.bf ++ [(k, v)]).map (·.1)).count x
        rw [hbf, List.count_append]
        simp
      · have := (A2.pkw hp).1
        have hz : (sumTo gs.size fun i => pC (S.stg i)) = 0 := by
          rcases Nat.eq_zero_or_pos (sumTo gs.size fun i => pC (S.stg i)) with h0 | h0
          · exact h0
          · have := (A.pkw h0).1
            rw [hbf] at this
            have := L.n1
            simp at *
            omega
        exfalso
        have u1 := sum_nxt pC pC_wake S.stg (.rv rs) false S.shut h0lt
        have u2 := sum_nxt pC pC_wake (nxt S.stg 0 (.rv rs) false S.shut) .L false S.shut hlt
        rw [hm] at u1
        rw [s1i] at u2
        have q1 : pC (.pk rs) = 0 := rfl
        have q2 : pC (.rv rs) = 0 := rfl
        have q3 : pC (.S k) = 0 := rfl
        have q4 : pC .L = 0 := rfl
        have hp : 0 < sumTo gs.size fun i_1 => pC (nxt (nxt S.stg 0 (.rv rs) false S.shut) (c.b + i) .L false S.shut i_1) := hp
        omega
    have es : nxt (nxt (nxt S.stg 0 (.rv rs) false S.shut) (c.b + i) .L false S.shut) 0 (.rv (rs ++ [k])) false S.shut = nxt (nxt S.stg 0 (.rv (rs ++ [k])) false S.shut) (c.b + i) .L false S.shut := by
      simp only [nope]
      funext x
      by_cases x0 : x = 0
      · subst x0
        rw [upd_same, upd_ne _ _ (by omega), upd_same]
      · rw [upd_ne _ _ x0]
        by_cases xi : x = c.b + i
        · subst xi; rw [upd_same, upd_same]
        · rw [upd_ne _ _ xi, upd_ne _ _ xi, upd_ne _ _ x0, upd_ne _ _ x0]
    rw [es] at A3
    exact A3.same (S' := S') (fun x => ⟨false, rfl⟩) rfl rfl rfl rfl rfl rfl rfl rfl
  · rw [show ((gs.setIfInBounds 0 (Conc.served (core g0) (recvd true v true))).setIfInBounds (c.b + i) (Conc.served (core g) undef)).size = gs.size by simp]
    refine Lt.phi ?_
    unfold Phi
    have e1 := sum_wgt (stg := S.stg) (m := gs.size) (.rv (rs ++ [k])) false S.shut h0lt (fun x hx hp hne => absurd (h.pks x hx hp) hne)
    have e2 := sum_wgt (stg := nxt S.stg 0 (.rv (rs ++ [k])) false S.shut) (m := gs.size) .L false S.shut hlt (fun x hx hp hne => nsh)
    rw [hm] at e1
    rw [nxt_ne _ _ _ _ (by omega), show wake false S.shut (S.stg (c.b + i)) = S.stg (c.b + i) from rfl, hs] at e2
    have q1 : wgt (.pk rs) = 1 := rfl
    have q2 : wgt (.rv (rs ++ [k])) = 2 := rfl
    have q3 : wgt (.S k) = 11 := rfl
    have q4 : wgt .L = 8 := rfl
    have hst : S.cl = true → S'.stg (c.b + c.n) = S.stg (c.b + c.n) := fun hcl => by
      show nxt (nxt S.stg 0 (.rv (rs ++ [k])) false S.shut) (c.b + i) .L false S.shut (c.b + c.n) = _
      rw [nxt_ne _ _ _ _ (by have := (A.cs hcl).1; omega), nxt_ne _ _ _ _ (by omega)]; rfl
    show 4 * (c.N - S.nx) + S.bf.length + (sumTo gs.size fun x => wgt (nxt (nxt S.stg 0 (.rv (rs ++ [k])) false S.shut) (c.b + i) .L false S.shut x)) + (if S.cl then stale S.v (S'.stg (c.b + c.n)) else 0) < 4 * (c.N - S.nx) + S.bf.length + (sumTo gs.size fun x => wgt (S.stg x)) + (if S.cl then stale S.v (S.stg (c.b + c.n)) else 0)
    cases hcl : S.cl with
    | false => simp only [Bool.false_eq_true, if_false]; omega
    | true => rw [hst hcl]; omega
theorem addS (L : Laws c) (h : Inv c Shun S gs w t) {r : Nat} (hg : gs[0]? = some g) (hs : S.stg 0 = .sp r) (hA : AtAddS c (AtGo c c.Lp (Starts c r)) (Deaf t 0) (S.lay.own 0) g w) : Goal c Shun S gs w sl t 0 := by
  have A := h.ari
  have hlt : 0 < gs.size := (Array.getElem?_eq_some_iff.1 hg).1
  obtain ⟨h1, h2, h3⟩ := hA
  obtain ⟨ph1, ph2⟩ := A.ph
  rw [hs] at ph1 ph2
  simp only [phv, isRv] at ph1 ph2
  have hm := A.mode
  rw [ph2] at hm
  have hws : S.wtg = 0 ∧ S.sm = 0 := by
    unfold ModeP at hm
    rcases hm with ⟨_, a, b, _⟩ | ⟨a, _⟩ | ⟨a, _⟩
    · exact ⟨a, b⟩
    · cases a
    · cases a
  have hwg : WgAt c.ty c.Wg w (S.v * KK) 0 := by have := h.hea.wg; rw [hws.1, hws.2] at this; simpa using this
  obtain ⟨g', e, k⟩ := h3 S.v (by have := A.vn; have := L.n2; omega) hwg
  obtain ⟨k, hk⟩ := k.rank
  have hdf : deafBehind (Deaf t 0) #[rd (stA c.Wg), wr (stA c.Wg)] = 1 := by rw [h2]; rfl
  have hev : ∀ e ∈ #[rd (stA c.Wg), wr (stA c.Wg)], OnWg c.Wg e := fun e he => by
    simp at he
    rcases he with rfl | rfl
    · exact on_rd _
    · exact on_wr _
  obtain ⟨n1, n2, n3⟩ := h.hea.ne
  have wg' : WgAt c.ty c.Wg (w.setCell (stA c.Wg) (.int .u64 ((S.v + 1 : Nat) * KK))) ((S.v + 1 : Nat) * KK + S.wtg) (S.sm : Int) := by
    have := WgAt.st hwg (st' := ((S.v + 1 : Nat) : Int) * KK)
    rw [hws.1, hws.2]
    simpa using this
  have o : ∀ b, ¬ c.Sb b → (w.setCell (stA c.Wg) (.int .u64 ((S.v + 1 : Nat) * KK))).heap[b]? = w.heap[b]? := setWg_kb
  have kp : Kept (c := c) S 0 w (w.setCell (stA c.Wg) (.int .u64 ((S.v + 1 : Nat) * KK))) := ⟨Nat.le_of_eq (setCell_size _ _ _).symm, fun b _ _ hb => o b hb, ⟨rfl, rfl⟩, fun _ => ⟨⟨_, _, wg'⟩, ⟨_, (setCell_ne _ _ _ n1.symm).trans h.hea.ct⟩, _, _, _, _, (setCell_ne _ _ _ n2.symm).trans h.hea.ch⟩⟩
  refine act h hg (show stepG c.P (0 == 0) g w = _ from e) (.inl rfl) (setCell_size _ _ _) o ⟨rfl, rfl⟩ (S' := { S.to 0 (.go r) k (S.lay.own 0) (wks c.P g g') S.shut with v := S.v + 1 }) (s1 := .go r) (k1 := k) (own1 := S.lay.own 0) rfl rfl rfl rfl rfl rfl rfl (fun b hb => hb)
    ⟨wg', (setCell_ne _ _ _ n1.symm).trans h.hea.ct, (setCell_ne _ _ _ n2.symm).trans h.hea.ch, fun i n v hi => L.item _ _ _ _ _ (kp.fly h.tra) (h.hea.items i n v hi), h.hea.len, h.hea.room⟩ ?_ ?_ (by rw [hdf]; exact hk) h.pcs (fun ev he => onWg_ok h.tra (hev ev he)) (fun _ _ _ o => by cases o) (fun e => by have := A.b; omega) (fun hcl => by rw [ph2] at hcl; cases hcl)
  · exact A.main (wk := wks c.P g g') hlt hs rfl rfl rfl rfl rfl rfl rfl rfl rfl (by have q := A.vj; rw [hs] at q; show S.v + 1 ≤ S.j + 1; exact Nat.succ_le_succ q) ⟨ph1, ph2⟩ (.inr ph2) (fun x => rfl) (fun hp => (A.pkw hp).1) (fun e => by cases e)
  · refine lt_of_phi hlt hs (S' := { S.to 0 (.go r) k (S.lay.own 0) (wks c.P g g') S.shut with v := S.v + 1 }) (s1 := .go r) (wk := wks c.P g g') (sh := S.shut) rfl (fun x hx hp hne => absurd (h.pks x hx hp) hne) ?_
    show 4 * (c.N - S.nx) + S.bf.length + (24 + 10 * r) + (if S.cl then _ else 0) < 4 * (c.N - S.nx) + S.bf.length + (25 + 10 * r) + (if S.cl then _ else 0)
    rw [ph2]
    simp only [Bool.false_eq_true, if_false]
    omega
end
end Pool
end Go.Proofs.YtdkpbobglogmoaaGreat
namespace Go.Proofs.YtdkpbobglogmoaaGreat
open Go Go.Conc
open Go.ConcR (KK wgBlock WgAt stA smA rd wr mk)
open Go.ConcN (sumTo upd sumTo_upd upd_ne upd_same sumTo_congr le_sumTo)
namespace Pool
open Ren (Loc.blk Rely Gt Gk Rk Terms Did EvO New With)
variable {c : Cfg} {Shun : Loc → Prop}
section
variable {S : St} {gs : Array Goroutine} {w w' : World} {sl : Option (Nat × Nat)} {t u : Trace} {g : Goroutine}
theorem push_get {gs : Array Goroutine} {g' ch : Goroutine} {i : Nat} {x : Goroutine} (h0 : 0 < gs.size) (hx : ((gs.setIfInBounds 0 g').push ch)[i]? = some x) : (i = gs.size ∧ x = ch) ∨ (i < gs.size ∧ ((i = 0 ∧ x = g') ∨ (i ≠ 0 ∧ gs[i]? = some x))) := by
  rw [Array.getElem?_push] at hx
  simp only [Array.size_setIfInBounds] at hx
  split at hx
  · rename_i e; exact .inl ⟨e, (Option.some.inj hx).symm⟩
  · by_cases e : i = 0
    · subst e
      rw [Array.getElem?_setIfInBounds_self_of_lt h0] at hx
      exact .inr ⟨h0, .inl ⟨rfl, (Option.some.inj hx).symm⟩⟩
    · rw [Array.getElem?_setIfInBounds_ne (fun x => e x.symm)] at hx
      exact .inr ⟨(Array.getElem?_eq_some_iff.1 hx).1, .inr ⟨e, hx⟩⟩
theorem goAny (L : Laws c) (h : Inv c Shun S gs w t) {g' ch : Goroutine} {s0 s1 sm : Stage} {k1 km : Rk} {Tm : Terms} (hg : gs[0]? = some g) (hs : S.stg 0 = s0) (hcl : S.cl = false) (hd : Deaf t 0 = 0) (e : stepG c.P true g w = .spawn g' ch w #[])
    {S' : St} (e1 : S'.stg = upd (nxt S.stg 0 s1 false S.shut) gs.size sm) (e2 : S'.rk = upd (upd S.rk 0 k1) gs.size km) (e3 : S'.lay = S.lay) (e5 : S'.v = S.v) (e6 : S'.nx = S.nx) (e7 : S'.bf = S.bf) (e8 : S'.wtg = S.wtg) (e9 : S'.sm = S.sm) (e10 : S'.shut = S.shut) (e11 : S'.s = S.s) (e12 : S'.r = S.r)
    (hsz' : gs.size + 1 = c.b + S'.j + (if S'.cl then 1 else 0)) (hj : ∀ i, i < S'.j → i < S.j ∨ c.b + i = gs.size) (hcl' : S'.cl = true → c.b + c.n = gs.size)
    (ok0 : Ok c s1 k1 0 (S.lay.own 0) g' w) (okm : Ok c sm km 0 None ch w) (om : out sm = false) (cm : isCL sm = false) (ari : Ari c S' (gs.size + 1)) (hphi : wgt s1 + wgt sm + (if S'.cl then stale S.v sm else 0) < wgt s0) (hnp : isPk s0 = false) : Goal c Shun S gs w sl t 0 := by
  have A := h.ari
  have hsz := h.sits.size
  rw [hcl] at hsz
  simp only [Bool.false_eq_true, if_false, Nat.add_zero] at hsz
  have hb := A.b
  have hlt : 0 < gs.size := (Array.getElem?_eq_some_iff.1 hg).1
  have hrun := runT_crowd_spawn (sl := sl) hg (show stepG c.P (0 == 0) g w = _ from e)
  rw [no_ops] at hrun
  have hops : ((#[] : Trace).push { g := 0, fn := g.frame.fn, pos := g.frame.place, act := .go gs.size }).push { g := gs.size, fn := ch.frame.fn, pos := g.frame.place, act := .start } = #[{ g := 0, fn := g.frame.fn, pos := g.frame.place, act := .go gs.size }, { g := gs.size, fn := ch.frame.fn, pos := g.frame.place, act := .start }] := rfl
  rw [hops] at hrun
  generalize hu : (#[{ g := 0, fn := g.frame.fn, pos := g.frame.place, act := .go gs.size }, { g := gs.size, fn := ch.frame.fn, pos := g.frame.place, act := .start }] : Trace) = u at hrun
  have hstill : ∀ op ∈ u, Still op := by subst hu; exact two_still ⟨rfl, fun m e => by cases e⟩ ⟨rfl, fun m e => by cases e⟩
  have T := h.tra
  have nk : ¬ kid c S gs.size := by unfold kid; rw [hcl]; simp; omega
  have own_m : S.lay.own gs.size = None := by
    funext b
    exact propext ⟨fun x => by rcases (T.own _ b x).2 with y | y; · omega
                               · exact absurd y nk, fun x => x.elim⟩
  have hkid : kid c S' = fun x => kid c S x ∨ x = gs.size := by
    funext x
    unfold kid
    rw [hcl]
    simp only [Bool.false_eq_true, if_false, Nat.add_zero]
    exact propext ⟨fun y => by omega, fun y => by omega⟩
  have hwho : who c S' = who c S ∨ (who c S = 0 ∧ who c S' = gs.size) := by
    unfold who
    rw [hcl]
    cases e : S'.cl with
    | false => exact .inl rfl
    | true => exact .inr ⟨rfl, hcl' e⟩
  have st : ∀ i, i ≠ 0 → i ≠ gs.size → S'.stg i = S.stg i := fun i h1 h2 => by rw [e1, upd_ne _ _ h2, nxt_ne _ _ _ _ h1]; rfl
  have st0 : S'.stg 0 = s1 := by rw [e1, upd_ne _ _ (by omega), nxt_self]
  have stm : S'.stg gs.size = sm := by rw [e1, upd_same]
  refine ⟨S', _, _, u, hrun, ⟨⟨fun i x hx => ?_, fun i hi => ?_, by simpa using hsz'⟩, ⟨by rw [e3]; exact T.ap, by rw [e3]; exact T.cold, by rw [e3]; exact T.sb, fun x b hb' => ?_, fun n b hb' => by rw [e3] at hb'; rw [e11, e12]; exact T.fl n b hb', T.coldLt, T.sbLt, ?_, fun i hi ho => ?_, fun hc hC => ?_⟩, ?_, by simpa using ari⟩, ?_⟩
  · rw [Deaf_still hstill, e3]
    rcases push_get hlt hx with ⟨rfl, rfl⟩ | ⟨hi, ⟨rfl, rfl⟩ | ⟨hi0, hxi⟩⟩
    · rw [stm, e2, upd_same, own_m, h.sits.above _ (Nat.le_refl _)]; exact okm
    · rw [st0, e2, upd_ne _ _ (by omega), upd_same, hd]; exact ok0
    · rw [st i hi0 (by omega), e2, upd_ne _ _ (by omega), upd_ne _ _ hi0]; exact h.sits.sit i x hxi
  · rw [Deaf_still hstill]; exact h.sits.above i (by simp at hi; omega)
  · rw [e3] at hb'
    rw [hkid]
    exact ⟨(T.own x b hb').1, (T.own x b hb').2.imp id .inl⟩
  · rw [hkid, e3, ← hu]
    exact T.pt.fork (c := gs.size) ⟨rfl, rfl⟩ ⟨rfl, rfl⟩ hd (h.sits.above _ (Nat.le_refl _)) hwho
  · rcases hj i hi with h1 | h1
    · rw [st _ (by omega) (by omega)] at ho
      obtain ⟨r, hr⟩ := T.rel i h1 ho
      exact ⟨r, hr.none fun op hop => (hstill op hop).1⟩
    · rw [h1, stm, om] at ho; cases ho
  · rw [hcl' hc, stm, cm] at hC; cases hC
  · exact ⟨by rw [e5, e8, e9]; exact h.hea.wg, by rw [e6]; exact h.hea.ct, by rw [e7, e10, e11, e12]; exact h.hea.ch, fun i k v hi => by rw [e3, e12]; rw [e7] at hi; exact h.hea.items i k v hi, by rw [e7, e11, e12]; exact h.hea.len, by rw [e7]; exact h.hea.room⟩
  · rw [show ((gs.setIfInBounds 0 g').push ch).size = gs.size + 1 by simp]
    refine Lt.phi ?_
    unfold Phi
    have q := sum_wgt (stg := S.stg) (m := gs.size) s1 false S.shut hlt (fun x hx hp hne => absurd (h.pks x hx hp) hne)
    rw [hs] at q
    have q1 : (sumTo gs.size fun i => wgt (S'.stg i)) = sumTo gs.size fun i => wgt (nxt S.stg 0 s1 false S.shut i) := sumTo_congr fun i hi => by rw [e1, upd_ne _ _ (by omega)]
    have q2 : wgt (S'.stg gs.size) = wgt sm := by rw [stm]
    have q3 : (if S'.cl then stale S'.v (S'.stg (c.b + c.n)) else 0) = (if S'.cl then stale S.v sm else 0) := by
      cases e : S'.cl with
      | false => rfl
      | true => simp only [if_true]; rw [hcl' e, stm, e5]
    rw [q3, e6, e7, hcl]
    simp only [sumTo, Bool.false_eq_true, if_false]
    omega
theorem goW (L : Laws c) (h : Inv c Shun S gs w t) {r : Nat} (hg : gs[0]? = some g) (hs : S.stg 0 = .go r) (hA : AtGo c c.Lp (Starts c r) (Deaf t 0) (S.lay.own 0) g w) : Goal c Shun S gs w sl t 0 := by
  have A := h.ari
  obtain ⟨ph1, ph2⟩ := A.ph
  rw [hs] at ph1 ph2
  simp only [phv, isRv] at ph1 ph2
  have hsz := h.sits.size
  rw [ph2] at hsz
  simp only [Bool.false_eq_true, if_false, Nat.add_zero] at hsz
  obtain ⟨h1, h2, g', ch, e, _, hch, hnx⟩ := hA
  obtain ⟨km, hkm⟩ := (L.lp _ _ hch).rank
  cases r with
  | zero =>
    obtain ⟨k, hk⟩ := (show Gt c.Tm (AtGo c c.ChC (c.Mp [])) 0 (S.lay.own 0) g' w from hnx).rank
    exact goAny (Tm := c.Tm) L h hg hs ph2 h2 e (S' := { S with stg := upd (nxt S.stg 0 .gc false S.shut) gs.size .L, rk := upd (upd S.rk 0 k) gs.size km, j := S.j + 1 }) rfl rfl rfl rfl rfl rfl rfl rfl rfl rfl rfl (by show _ = c.b + (S.j + 1) + (if S.cl then 1 else 0); rw [ph2]; simp; omega) (fun i hi => by have hi : i < S.j + 1 := hi; omega) (fun e => by have e : S.cl = true := e; rw [ph2] at e; cases e) hk hkm rfl rfl
      (A.spawn hsz hs rfl rfl rfl rfl rfl rfl rfl rfl rfl rfl) (by show 15 + 8 + (if S.cl then _ else 0) < 24 + 10 * 0; rw [ph2]; simp) rfl
  | succ r =>
    obtain ⟨k, hk⟩ := (show Gt c.Tm (AtAddS c (AtGo c c.Lp (Starts c r))) 0 (S.lay.own 0) g' w from hnx).rank
    exact goAny (Tm := c.Tm) L h hg hs ph2 h2 e (S' := { S with stg := upd (nxt S.stg 0 (.sp r) false S.shut) gs.size .L, rk := upd (upd S.rk 0 k) gs.size km, j := S.j + 1 }) rfl rfl rfl rfl rfl rfl rfl rfl rfl rfl rfl (by show _ = c.b + (S.j + 1) + (if S.cl then 1 else 0); rw [ph2]; simp; omega) (fun i hi => by have hi : i < S.j + 1 := hi; omega) (fun e => by have e : S.cl = true := e; rw [ph2] at e; cases e) hk hkm rfl rfl
      (A.spawn hsz hs rfl rfl rfl rfl rfl rfl rfl rfl rfl rfl) (by show 25 + 10 * r + 8 + (if S.cl then _ else 0) < 24 + 10 * (r + 1); rw [ph2]; simp; omega) rfl
theorem goC (L : Laws c) (h : Inv c Shun S gs w t) (hg : gs[0]? = some g) (hs : S.stg 0 = .gc) (hA : AtGo c c.ChC (c.Mp []) (Deaf t 0) (S.lay.own 0) g w) : Goal c Shun S gs w sl t 0 := by
  have A := h.ari
  obtain ⟨ph1, ph2⟩ := A.ph
  rw [hs] at ph1 ph2
  simp only [phv, isRv] at ph1 ph2
  have hsz := h.sits.size
  rw [ph2] at hsz
  simp only [Bool.false_eq_true, if_false, Nat.add_zero] at hsz
  obtain ⟨h1, h2, g', ch, e, _, hch, hnx⟩ := hA
  obtain ⟨km, hkm⟩ := (L.chc _ _ hch).rank
  obtain ⟨k, hk⟩ := (L.mp _ _ _ _ hnx).rank
  exact goAny (Tm := c.Tm) L h hg hs ph2 h2 e (S' := { S with stg := upd (nxt S.stg 0 (.rv []) false S.shut) gs.size .W1, rk := upd (upd S.rk 0 k) gs.size km, cl := true }) rfl rfl rfl rfl rfl rfl rfl rfl rfl rfl rfl (by show _ = c.b + S.j + 1; omega) (fun i hi => .inl hi) (fun _ => by omega) hk hkm rfl rfl
    (A.spawnC hsz hs rfl rfl rfl rfl rfl rfl rfl rfl rfl) (by show 2 + 12 + (if true = true then stale S.v .W1 else 0) < 15; simp [stale]) rfl
def Done (c : Cfg) (Shun : Loc → Prop) (gs : Array Goroutine) (w : World) (t : Trace) : Prop :=
  ∃ (O : Nat → Prop) (g : Goroutine) (q : Nat → Nat) (rs : List Nat), gs[0]? = some g ∧ c.Fin rs O g w ∧ (∀ k, rs.count k = if k < c.N then 1 else 0) ∧ Leavers c.P t gs q ∧ Past (fun l => Shun l ∨ Loc.blk l = some c.Wg) w.heap.size t ∧ (∀ b, O b → b < w.heap.size ∧ ¬ c.Cold b ∧ ¬ c.Sb b)
theorem sum_zero {f : Nat → Nat} : ∀ {m : Nat}, (∀ i, i < m → f i = 0) → sumTo m f = 0
  | 0, _ => rfl
  | m + 1, h => by simp only [sumTo]; rw [sum_zero fun i hi => h i (Nat.lt_succ_of_lt hi), h m (Nat.lt_succ_self m)]
theorem recvClosed (L : Laws c) (h : Inv c Shun S gs w t) {rs : List Nat} (hg : gs[0]? = some g) (hs : S.stg 0 = .rv rs) (hA : AtRecv c rs (Deaf t 0) (S.lay.own 0) g w) (hbf : S.bf = []) (hsh : S.shut = true) :
    ∃ gs' w' ops, runT c.P (crowd gs w sl) 0 = (.next (crowd gs' w' sl), ops) ∧ Done c Shun gs' w' (t ++ ops) := by
  have A := h.ari
  have hb := A.b
  have T := h.tra
  have hsz := h.sits.size
  have hlt : 0 < gs.size := (Array.getElem?_eq_some_iff.1 hg).1
  obtain ⟨h1, h2, z, e, k1, k2⟩ := hA
  obtain ⟨hcl, hQ⟩ := A.shut.1 hsh
  obtain ⟨hj, _⟩ := A.cs hcl
  have hck : cK (S.stg (c.b + c.n)) = 2 := by revert hQ; cases S.stg (c.b + c.n) <;> simp [isQ, cK]
  have hall := h.allOut hcl hck
  have hch := h.hea.ch
  rw [hsh, hbf] at hch
  have hm := A.mode
  rw [hcl, hck] at hm
  unfold ModeP at hm
  simp at hm
  have quits : ∀ i, 0 < i → i < gs.size → S.stg i = .Q := by
    intro i h0 hi
    rcases Nat.lt_or_ge i c.b with h5 | h5
    · have := A.old i h0 h5; revert this; cases S.stg i <;> simp [isQ]
    · rcases Nat.lt_or_ge i (c.b + c.n) with h6 | h6
      · have q := (hall (i - c.b) (by omega)).1
        rw [show c.b + (i - c.b) = i by omega] at q
        have b1 : vC (S.stg i) ≤ sumTo gs.size fun i => vC (S.stg i) := le_sumTo (f := fun i => vC (S.stg i)) hi
        have b2 : xC (S.stg i) ≤ sumTo gs.size fun i => xC (S.stg i) := le_sumTo (f := fun i => xC (S.stg i)) hi
        have b3 : yC (S.stg i) ≤ sumTo gs.size fun i => yC (S.stg i) := le_sumTo (f := fun i => yC (S.stg i)) hi
        have hv := A.v
        have z1 : vC (S.stg i) = 0 := by omega
        have z2 : xC (S.stg i) = 0 := by omega
        have z3 : yC (S.stg i) = 0 := by omega
        revert q z1 z2 z3
        cases S.stg i <;> simp [out, vC, xC, yC]
      · have : i = c.b + c.n := by rw [hcl, hj] at hsz; simp at hsz; omega
        rw [this]
        revert hQ; cases S.stg (c.b + c.n) <;> simp [isQ]
  have zero : ∀ i, i < gs.size → pC (S.stg i) = 0 := fun i hi => by
    rcases Nat.eq_zero_or_pos i with rfl | h0
    · rw [hs]; rfl
    · rw [quits i h0 hi]; rfl
  have hrun := crowd_recv_closed (sl := sl) hg (show stepG c.P (0 == 0) g w = _ from e) hch (h.noSend zero 0)
  rw [finishComm_recv, none_ops] at hrun
  have hC := T.sbLt c.C (.inr (.inr rfl))
  have hat : (t ++ #[{ g := 0, fn := (core g).frame.fn, pos := (core g).frame.place, act := .recvClosed c.C }])[t.size]? = some { g := 0, fn := (core g).frame.fn, pos := (core g).frame.place, act := .recvClosed c.C } := by
    rw [Array.getElem?_append_right (Nat.le_refl _), Nat.sub_self]; rfl
  have hstill : ∀ op ∈ (#[{ g := 0, fn := (core g).frame.fn, pos := (core g).frame.place, act := .recvClosed c.C }] : Trace), Still op := fun op hop => by
    simp only [List.mem_toArray, List.mem_cons, List.not_mem_nil, or_false] at hop
    subst hop
    exact ⟨rfl, fun m e => by cases e⟩
  have m := T.pt.mute (u := #[{ g := 0, fn := (core g).frame.fn, pos := (core g).frame.place, act := .recvClosed c.C }]) (fun op hop => (hstill op hop).1) (fun op hop => by simp at hop; subst hop; exact hC) (fun op hop => by simp at hop; subst hop; simp)
  obtain ⟨q0, hAc, hSh⟩ := T.acq hcl (by revert hQ; cases S.stg (c.b + c.n) <;> simp [isQ, isCL])
  obtain ⟨p0, hP⟩ := hSh hQ
  have hp0 := lt_of_act? hP.act
  have hq0 := lt_of_act? hAc.act
  have hN : c.N ≤ S.nx := A.lates 0 (by have := L.n1; omega) (by
    have := quits (c.b + 0) (by omega) (by rw [hcl, hj] at hsz; simp at hsz; have := L.n1; omega)
    rw [this]; rfl)
  have key : ∀ i, ∃ q, ∀ x, 0 < i → gs[i]? = some x → QuitsD c.P q (Deaf t i) x := fun i => by
    by_cases hi : 0 < i ∧ i < gs.size
    · have ok := h.sits.sit i gs[i] (Array.getElem?_eq_getElem hi.2)
      rw [quits i hi.1 hi.2] at ok
      obtain ⟨q, _, hq⟩ := ok
      exact ⟨q, fun x _ hx => by rw [Array.getElem?_eq_getElem hi.2] at hx; cases hx; exact hq⟩
    · exact ⟨0, fun x h1 hx => absurd ⟨h1, (Array.getElem?_eq_some_iff.1 hx).1⟩ hi⟩
  refine ⟨_, _, _, hrun, S.lay.own 0, Conc.served (core g) (recvd true z false), fun i => (key i).choose, rs, ?_, k2 w (Rely.refl w), fun k => ?_, ⟨fun i x hi hx => ?_, fun i hi => ?_⟩, ?_, fun b hb' => ⟨(T.own 0 b hb').1, fun hc => T.ap.oc 0 b hb' (T.cold ▸ hc), fun hs' => T.ap.os 0 b hb' (T.sb ▸ hs')⟩⟩
  · rw [Array.getElem?_setIfInBounds_self_of_lt hlt]
  · have := A.count k
    rw [hs, hbf] at this
    have z0 : (sumTo gs.size fun i => kC k (S.stg i)) = 0 := sum_zero fun i hi => by
      rcases Nat.eq_zero_or_pos i with rfl | h0
      · rw [hs]; rfl
      · rw [quits i h0 hi]; rfl
    rw [z0] at this
    simp only [rsOf, List.map_nil, List.count_nil, Nat.add_zero] at this
    rw [this]
    by_cases hk : k < c.N
    · rw [if_pos ⟨by omega, hk⟩, if_pos hk]
    · rw [if_neg (fun x => hk x.2), if_neg hk]
  · rw [Deaf_still hstill]
    rw [Array.getElem?_setIfInBounds_ne (by omega)] at hx
    exact (key i).choose_spec x hi hx
  · rw [Deaf_still hstill]
    exact h.sits.above i (by simpa using hi)
  · have hlow : ∀ x, kid c S x → x = c.b + c.n ∨ wsOf c x := fun x hx => by
      unfold kid at hx
      unfold wsOf
      rw [hcl, hj] at hx
      simp at hx
      omega
    refine m.past (ws := wsOf c) (c := c.b + c.n) (q := q0) (p := p0) (e := t.size) hlow ⟨?_, g?_app hAc.by_, (heard_old hq0).2 hAc.heard, fun x hx => ?_⟩ ⟨?_, g?_app hP.by_, (heard_old hp0).2 hP.heard, hP.lt, fun i hi1 hi2 => ?_⟩ (act?_of hat) (by simp [Trace.g?, hat]) ⟨0, by simp [Trace.g?, hat], by rw [deaf_old (Nat.le_refl _)]; exact h2⟩ (by rw [Deaf_still hstill]; exact h2)
    · rw [act?_old hq0]; exact hAc.act
    · obtain ⟨r, hr, hrq⟩ := hAc.all x hx
      exact ⟨r, hr.none fun op hop => (hstill op hop).1, hrq⟩
    · rw [act?_old hp0]; exact hP.act
    · rcases g?_cases hi2 with ⟨hlt', hg'⟩ | ⟨_, op, hop, hx, _⟩
      · rw [touchAt_old hlt']; exact hP.after i hi1 hg'
      · rw [touchAt_of hx]; exact (hstill op hop).1
theorem Gk.leaf_ {T : Terms} {Stop : Stp} {d : Nat} {O : Nat → Prop} {g : Goroutine} {w : World} (h : Gk T Stop .leaf d O g w) : ∀ w1, Rely T.Cold T.Liv O w w1 → Stop d O g w1 := by
  cases h with
  | stop h => exact h
end
end Pool
end Go.Proofs.YtdkpbobglogmoaaGreat
namespace Go.Proofs.YtdkpbobglogmoaaGreat
open Go Go.Conc
open Go.ConcR (KK wgBlock WgAt stA smA rd wr mk)
open Go.ConcN (sumTo upd sumTo_upd upd_ne upd_same sumTo_congr le_sumTo)
namespace Pool
open Ren (Loc.blk Rely Gt Gk Rk Terms Did EvO New With)
variable {c : Cfg} {Shun : Loc → Prop}
def rests : Stage → Bool | .pk _ | .K _ | .B3 | .Q => true | _ => false
theorem Ok.runs {s : Stage} {k : Rk} {d : Nat} {O : Nat → Prop} {g : Goroutine} {w : World} (h : Ok c s k d O g w) (hs : rests s = false) : g.status = .running := by
  cases s with
  | pk rs => cases hs
  | K n => cases hs
  | B3 => cases hs
  | Q => cases hs
  | D => exact Gk.run h.1 fun _ _ _ _ h => h.1
  | W2 v => exact Gk.run h.1 fun _ _ _ _ h => h.1
  | D2 => exact Gk.run h.1 fun _ _ _ _ h => h.1
  | D3 => exact Gk.run h.1 fun _ _ _ _ h => h.1
  | D4 => exact Gk.run h.1 fun _ _ _ _ h => h.1
  | _ => exact Gk.run h fun _ _ _ _ h => h.1
theorem sum_pos {f : Nat → Nat} : ∀ {m : Nat}, 1 ≤ sumTo m f → ∃ i, i < m ∧ 1 ≤ f i
  | 0, h => by simp [sumTo] at h
  | m + 1, h => by
    simp only [sumTo] at h
    by_cases e : 1 ≤ f m
    · exact ⟨m, Nat.lt_succ_self m, e⟩
    · obtain ⟨i, hi, hf⟩ := sum_pos (f := f) (m := m) (by omega)
      exact ⟨i, Nat.lt_succ_of_lt hi, hf⟩
section
variable {S : St} {gs : Array Goroutine} {w : World} {sl : Option (Nat × Nat)} {t : Trace}
theorem Inv.wakes (h : Inv c Shun S gs w t) : ∀ g ∈ gs, awake g := fun g hg => by
  obtain ⟨i, hi, rfl⟩ := Array.mem_iff_getElem.1 hg
  exact (h.sits.sit i _ (Array.getElem?_eq_getElem hi)).awake
theorem Inv.runs (L : Laws c) (h : Inv c Shun S gs w t) : ∃ (i : Nat) (g : Goroutine), gs[i]? = some g ∧ g.status = .running := by
  have A := h.ari
  have hsz := h.sits.size
  have hb := A.b
  have key : ∀ i, i < gs.size → rests (S.stg i) = false → ∃ (i : Nat) (g : Goroutine), gs[i]? = some g ∧ g.status = .running := fun i hi hr =>
    ⟨i, gs[i], Array.getElem?_eq_getElem hi, (h.sits.sit i _ (Array.getElem?_eq_getElem hi)).runs hr⟩
  cases hp : isPk (S.stg 0) with
  | false =>
    refine key 0 (by omega) ?_
    have := A.m0
    revert this hp
    cases S.stg 0 <;> simp [isM, isPk, rests]
  | true =>
    obtain ⟨hbf, hsh⟩ := A.pkm hp
    have hcl : S.cl = true := by
      rw [A.ph.2]
      revert hp
      cases S.stg 0 <;> simp [isPk, isRv]
    obtain ⟨hj, hC⟩ := A.cs hcl
    have hnQ : isQ (S.stg (c.b + c.n)) = false := by
      cases hq : isQ (S.stg (c.b + c.n)) with
      | false => rfl
      | true => have := A.shut.2 ⟨hcl, hq⟩; rw [hsh] at this; cases this
    rw [hcl, hj] at hsz
    simp only [if_true] at hsz
    by_cases hB : rests (S.stg (c.b + c.n)) = false
    · exact key _ (by omega) hB
    have hB3 : S.stg (c.b + c.n) = .B3 := by
      revert hC hnQ hB
      cases S.stg (c.b + c.n) <;> simp [isC, isQ, rests]
    have hm := A.mode
    rw [hcl, hB3] at hm
    have noK : ∀ i, i < gs.size → pC (S.stg i) = 0 := fun i hi => by
      rcases pC_01 (S.stg i) with e | e
      · exact e
      · have := A.pkw (Nat.lt_of_lt_of_le (by rw [e]; exact Nat.one_pos) (le_sumTo (f := fun i => pC (S.stg i)) hi))
        rw [hbf] at this
        have := this.1
        have := L.n1
        simp at *
        omega
    have pick : ∀ i, i < gs.size → 1 ≤ vC (S.stg i) + xC (S.stg i) + yC (S.stg i) → rests (S.stg i) = false := fun i hi h1 => by
      have := noK i hi
      revert this h1
      cases S.stg i <;> simp [vC, xC, yC, pC, rests]
    unfold ModeP at hm
    simp only [cK, isW3] at hm
    rcases hm with ⟨a | a, _⟩ | ⟨_, _, ⟨a, _⟩ | ⟨_, ⟨_, a, _⟩ | ⟨_, _, a, _⟩ | ⟨_, _, _, _, a⟩⟩⟩ | ⟨_, a, _⟩
    · cases a
    · cases a
    · rw [A.v] at a
      obtain ⟨i, hi, hv⟩ := sum_pos a
      exact key i hi (pick i hi (by omega))
    · obtain ⟨i, hi, hv⟩ := sum_pos (Nat.le_of_eq a.symm)
      exact key i hi (pick i hi (by omega))
    · obtain ⟨i, hi, hv⟩ := sum_pos (Nat.le_of_eq a.symm)
      exact key i hi (pick i hi (by omega))
    · cases a
    · cases a
def Next (c : Cfg) (Shun : Loc → Prop) (S : St) (gs : Array Goroutine) (w : World) (sl : Option (Nat × Nat)) (t : Trace) (i0 : Nat) : Prop :=
  ∃ gs' w' ops, runT c.P (crowd gs w sl) i0 = (.next (crowd gs' w' sl), ops) ∧ ((∃ S', Inv c Shun S' gs' w' (t ++ ops) ∧ Lt (mu c S' gs'.size) (mu c S gs.size)) ∨ Done c Shun gs' w' (t ++ ops))
theorem Goal.next {i0 : Nat} (h : Goal c Shun S gs w sl t i0) : Next c Shun S gs w sl t i0 := by
  obtain ⟨S', gs', w', ops, h1, h2, h3⟩ := h
  exact ⟨gs', w', ops, h1, .inl ⟨S', h2, h3⟩⟩
theorem zero_false {i : Nat} (h : i ≠ 0) : false = (i == 0) := by simp [h]
theorem main_step (L : Laws c) (h : Inv c Shun S gs w t) {g : Goroutine} (hg : gs[0]? = some g) (hr : g.status = .running) : Next c Shun S gs w sl t 0 := by
  have A := h.ari
  have ok := h.sits.sit 0 g hg
  have hm0 := A.m0
  have hw : isRv (S.stg 0) = false → who c S = 0 := fun e => by unfold who; rw [A.ph.2, e]; rfl
  cases hs : S.stg 0 with
  | sp r =>
    rw [hs] at ok hw
    cases hk : S.rk 0 with
    | leaf => rw [hk] at ok; exact (addS L h hg hs (Gk.leaf_ ok w (Ren.Rely.refl w))).next
    | node f =>
      rw [hk] at ok
      refine Goal.next (priv (T := c.Tm) L h hg rfl rfl (fun b hb => hb) rfl (fun b hb => ⟨hb, hw rfl⟩) (.inl rfl) ok (fun k' d' O' g' w' x _ => by rw [hs]; exact x) (fun e => by rw [hs] at e; cases e) (fun e _ => by have := A.b; omega) hk)
  | go r =>
    rw [hs] at ok hw
    cases hk : S.rk 0 with
    | leaf => rw [hk] at ok; exact (goW L h hg hs (Gk.leaf_ ok w (Ren.Rely.refl w))).next
    | node f =>
      rw [hk] at ok
      refine Goal.next (priv (T := c.Tm) L h hg rfl rfl (fun b hb => hb) rfl (fun b hb => ⟨hb, hw rfl⟩) (.inl rfl) ok (fun k' d' O' g' w' x _ => by rw [hs]; exact x) (fun e => by rw [hs] at e; cases e) (fun e _ => by have := A.b; omega) hk)
  | gc =>
    rw [hs] at ok hw
    cases hk : S.rk 0 with
    | leaf => rw [hk] at ok; exact (goC L h hg hs (Gk.leaf_ ok w (Ren.Rely.refl w))).next
    | node f =>
      rw [hk] at ok
      refine Goal.next (priv (T := c.Tm) L h hg rfl rfl (fun b hb => hb) rfl (fun b hb => ⟨hb, hw rfl⟩) (.inl rfl) ok (fun k' d' O' g' w' x _ => by rw [hs]; exact x) (fun e => by rw [hs] at e; cases e) (fun e _ => by have := A.b; omega) hk)
  | rv rs =>
    rw [hs] at ok
    cases hk : S.rk 0 with
    | leaf =>
      rw [hk] at ok
      have hA := Gk.leaf_ ok
      cases hbf : S.bf with
      | nil =>
        cases hsh : S.shut with
        | true =>
          obtain ⟨gs', w', ops, h1, h2⟩ := recvClosed (sl := sl) L h hg hs (hA w (Ren.Rely.refl w)) hbf hsh
          exact ⟨gs', w', ops, h1, .inr h2⟩
        | false => exact (recvWaits L h hg hs hA hbf hsh).next
      | cons x tl =>
        obtain ⟨k, v⟩ := x
        rcases Nat.eq_zero_or_pos (sumTo gs.size fun i => pC (S.stg i)) with e | e
        · exact (recvBuf L h hg hs (hA w (Ren.Rely.refl w)) hbf e).next
        · exact (recvPull L h hg hs (hA w (Ren.Rely.refl w)) hbf e).next
    | node f =>
      rw [hk] at ok
      refine Goal.next (priv (T := c.Tr) L h hg rfl rfl (fun b hb => hb) rfl (fun b hb => hb.elim) (.inl rfl) ok (fun k' d' O' g' w' x _ => by rw [hs]; exact x) (fun e => by rw [hs] at e; cases e) (fun e _ => by have := A.b; omega) hk)
  | pk rs =>
    rw [hs] at ok
    obtain ⟨_, g0, z, _, rfl, _⟩ := ok
    cases hr
  | _ => rw [hs] at hm0; cases hm0
theorem worker_step (L : Laws c) (h : Inv c Shun S gs w t) {i : Nat} (hi : i < S.j) {g : Goroutine} (hg : gs[c.b + i]? = some g) (hr : g.status = .running) : Next c Shun S gs w sl t (c.b + i) := by
  have A := h.ari
  have hb := A.b
  have ok := h.sits.sit _ g hg
  have hwk := A.wk i hi
  have h0 : c.b + i ≠ 0 := by omega
  have hkid : kid c S (c.b + i) := by unfold kid; omega
  have hnc : c.b + i = c.b + c.n → S.cl = true → isQ (S.stg (c.b + i)) = false := fun e _ => by have := A.j; omega
  have hr0 := Ren.Rely.refl (Cold := c.Cold) (Liv := c.Liv) (O := S.lay.own (c.b + i)) w
  have hr1 := Ren.Rely.refl (Cold := fun _ => False) (Liv := c.Liv) (O := S.lay.own (c.b + i)) w
  cases hs : S.stg (c.b + i) with
  | L =>
    rw [hs] at ok
    cases hk : S.rk (c.b + i) with
    | leaf => rw [hk] at ok; exact Goal.next (fetch L h hi hg hs (Gk.leaf_ ok w hr0))
    | node f =>
      rw [hk] at ok
      exact Goal.next (priv (T := c.Tw) L h hg rfl (zero_false h0) (fun b hb => hb) rfl (fun b hb => hb.elim) (.inr hkid) ok (fun k' d' O' g' w' x _ => by rw [hs]; exact x) (fun e => by rw [hs] at e; cases e) hnc hk)
  | S k =>
    rw [hs] at ok
    cases hk : S.rk (c.b + i) with
    | leaf =>
      rw [hk] at ok
      have hA := Gk.leaf_ ok w hr0
      cases hm : isPk (S.stg 0) with
      | true =>
        obtain ⟨rs, hm⟩ : ∃ rs, S.stg 0 = .pk rs := by revert hm; cases S.stg 0 <;> simp [isPk]
        exact (sendMeets L h hi hg hs hA hm).next
      | false =>
        rcases Nat.lt_or_ge S.bf.length c.n with e | e
        · exact (sendRoom L h hi hg hs hA hm e).next
        · exact (sendFull L h hi hg hs hA hm (Nat.le_antisymm h.hea.room e)).next
    | node f =>
      rw [hk] at ok
      exact Goal.next (priv (T := c.Tw) L h hg rfl (zero_false h0) (fun b hb => hb) rfl (fun b hb => hb.elim) (.inr hkid) ok (fun k' d' O' g' w' x _ => by rw [hs]; exact x) (fun e => by rw [hs] at e; cases e) hnc hk)
  | K k =>
    rw [hs] at ok
    obtain ⟨_, _, g0, z, v, rfl, _⟩ := ok
    cases hr
  | R =>
    rw [hs] at ok
    cases hk : S.rk (c.b + i) with
    | leaf => rw [hk] at ok; exact Goal.next (relm L h hi hg hs (Gk.leaf_ ok w hr0))
    | node f =>
      rw [hk] at ok
      exact Goal.next (priv (T := c.Tw) L h hg rfl (zero_false h0) (fun b hb => hb) rfl (fun b hb => hb.elim) (.inr hkid) ok (fun k' d' O' g' w' x _ => by rw [hs]; exact x) (fun e => by rw [hs] at e; cases e) hnc hk)
  | D =>
    rw [hs] at ok
    obtain ⟨ok, no⟩ := ok
    cases hk : S.rk (c.b + i) with
    | leaf => rw [hk] at ok; exact Goal.next (addn L h hi hg hs (Gk.leaf_ ok w hr1))
    | node f =>
      rw [hk] at ok
      exact Goal.next (priv (T := c.T0) L h hg rfl (zero_false h0) (fun b hb => hb.elim) rfl (fun b hb => hb.elim) (.inr hkid) ok (fun k' d' O' g' w' x y => by rw [hs] at y ⊢; exact ⟨x, y rfl⟩) (fun _ => ⟨trivial, no, fun _ => id, fun _ => id⟩) hnc hk)
  | D2 =>
    rw [hs] at ok
    obtain ⟨ok, no⟩ := ok
    cases hk : S.rk (c.b + i) with
    | leaf => rw [hk] at ok; exact Goal.next (load2 L h hi hg hs (Gk.leaf_ ok w hr1))
    | node f =>
      rw [hk] at ok
      exact Goal.next (priv (T := c.T0) L h hg rfl (zero_false h0) (fun b hb => hb.elim) rfl (fun b hb => hb.elim) (.inr hkid) ok (fun k' d' O' g' w' x y => by rw [hs] at y ⊢; exact ⟨x, y rfl⟩) (fun _ => ⟨trivial, no, fun _ => id, fun _ => id⟩) hnc hk)
  | D3 =>
    rw [hs] at ok
    obtain ⟨ok, no⟩ := ok
    cases hk : S.rk (c.b + i) with
    | leaf => rw [hk] at ok; exact Goal.next (store0 L h hi hg hs (Gk.leaf_ ok w hr1))
    | node f =>
      rw [hk] at ok
      exact Goal.next (priv (T := c.T0) L h hg rfl (zero_false h0) (fun b hb => hb.elim) rfl (fun b hb => hb.elim) (.inr hkid) ok (fun k' d' O' g' w' x y => by rw [hs] at y ⊢; exact ⟨x, y rfl⟩) (fun _ => ⟨trivial, no, fun _ => id, fun _ => id⟩) hnc hk)
  | D4 =>
    rw [hs] at ok
    obtain ⟨ok, no⟩ := ok
    cases hk : S.rk (c.b + i) with
    | leaf => rw [hk] at ok; exact Goal.next (semrel L h hi hg hs (Gk.leaf_ ok w hr1))
    | node f =>
      rw [hk] at ok
      exact Goal.next (priv (T := c.T0) L h hg rfl (zero_false h0) (fun b hb => hb.elim) rfl (fun b hb => hb.elim) (.inr hkid) ok (fun k' d' O' g' w' x y => by rw [hs] at y ⊢; exact ⟨x, y rfl⟩) (fun _ => ⟨trivial, no, fun _ => id, fun _ => id⟩) hnc hk)
  | Q => exact Goal.next (quit L h hg h0 hs hr)
  | _ => rw [hs] at hwk; cases hwk
theorem closer_step (L : Laws c) (h : Inv c Shun S gs w t) (hcl : S.cl = true) {g : Goroutine} (hg : gs[c.b + c.n]? = some g) (hr : g.status = .running) : Next c Shun S gs w sl t (c.b + c.n) := by
  have A := h.ari
  have hb := A.b
  have ok := h.sits.sit _ g hg
  obtain ⟨hj, hC⟩ := A.cs hcl
  have h0 : c.b + c.n ≠ 0 := by omega
  have hkid : kid c S (c.b + c.n) := by unfold kid; rw [hcl, hj]; simp
  have hw : who c S = c.b + c.n := by unfold who; rw [hcl]; rfl
  have hr0 := Ren.Rely.refl (Cold := c.Cold) (Liv := c.Liv) (O := S.lay.own (c.b + c.n)) w
  cases hs : S.stg (c.b + c.n) with
  | W1 =>
    rw [hs] at ok
    cases hk : S.rk (c.b + c.n) with
    | leaf => rw [hk] at ok; exact Goal.next (w1 L h hcl hg hs (Gk.leaf_ ok w hr0))
    | node f =>
      rw [hk] at ok
      exact Goal.next (priv (T := c.Tc) L h hg rfl (zero_false h0) (fun b hb => hb) rfl (fun b hb => ⟨hb, hw⟩) (.inr hkid) ok (fun k' d' O' g' w' x _ => by rw [hs]; exact x) (fun e => by rw [hs] at e; cases e) (fun _ _ => by rw [hs]; rfl) hk)
  | W2 v =>
    rw [hs] at ok
    obtain ⟨ok, hv⟩ := ok
    cases hk : S.rk (c.b + c.n) with
    | leaf => rw [hk] at ok; exact Goal.next (w2 L h hcl hg hs hv (Gk.leaf_ ok w hr0))
    | node f =>
      rw [hk] at ok
      exact Goal.next (priv (T := c.Tc) L h hg rfl (zero_false h0) (fun b hb => hb) rfl (fun b hb => ⟨hb, hw⟩) (.inr hkid) ok (fun k' d' O' g' w' x _ => by rw [hs]; exact ⟨x, hv⟩) (fun e => by rw [hs] at e; cases e) (fun _ _ => by rw [hs]; rfl) hk)
  | W3 =>
    rw [hs] at ok
    cases hk : S.rk (c.b + c.n) with
    | leaf => rw [hk] at ok; exact Goal.next (w3 L h hcl hg hs hk (Gk.leaf_ ok))
    | node f =>
      rw [hk] at ok
      exact Goal.next (priv (T := c.Tc) L h hg rfl (zero_false h0) (fun b hb => hb) rfl (fun b hb => ⟨hb, hw⟩) (.inr hkid) ok (fun k' d' O' g' w' x _ => by rw [hs]; exact x) (fun e => by rw [hs] at e; cases e) (fun _ _ => by rw [hs]; rfl) hk)
  | B3 =>
    rw [hs] at ok
    obtain ⟨_, g0, _, rfl⟩ := ok
    cases hr
  | W4 =>
    rw [hs] at ok
    cases hk : S.rk (c.b + c.n) with
    | leaf => rw [hk] at ok; exact Goal.next (w4 L h hcl hg hs (Gk.leaf_ ok w hr0))
    | node f =>
      rw [hk] at ok
      exact Goal.next (priv (T := c.Tc) L h hg rfl (zero_false h0) (fun b hb => hb) rfl (fun b hb => ⟨hb, hw⟩) (.inr hkid) ok (fun k' d' O' g' w' x _ => by rw [hs]; exact x) (fun e => by rw [hs] at e; cases e) (fun _ _ => by rw [hs]; rfl) hk)
  | AQ =>
    rw [hs] at ok
    cases hk : S.rk (c.b + c.n) with
    | leaf => rw [hk] at ok; exact Goal.next (aq L h hcl hg hs (Gk.leaf_ ok w hr0))
    | node f =>
      rw [hk] at ok
      exact Goal.next (priv (T := c.Tc) L h hg rfl (zero_false h0) (fun b hb => hb) rfl (fun b hb => ⟨hb, hw⟩) (.inr hkid) ok (fun k' d' O' g' w' x _ => by rw [hs]; exact x) (fun e => by rw [hs] at e; cases e) (fun _ _ => by rw [hs]; rfl) hk)
  | CL =>
    rw [hs] at ok
    cases hk : S.rk (c.b + c.n) with
    | leaf => rw [hk] at ok; exact Goal.next (cl L h hcl hg hs (Gk.leaf_ ok w hr0))
    | node f =>
      rw [hk] at ok
      exact Goal.next (priv (T := c.Tc) L h hg rfl (zero_false h0) (fun b hb => hb) rfl (fun b hb => ⟨hb, hw⟩) (.inr hkid) ok (fun k' d' O' g' w' x _ => by rw [hs]; exact x) (fun e => by rw [hs] at e; cases e) (fun _ _ => by rw [hs]; rfl) hk)
  | Q => exact Goal.next (quit L h hg h0 hs hr)
  | _ => rw [hs] at hC; cases hC
theorem any_step (L : Laws c) (h : Inv c Shun S gs w t) {i0 : Nat} {g : Goroutine} (hg : gs[i0]? = some g) (hr : g.status = .running) : Next c Shun S gs w sl t i0 := by
  have hlt : i0 < gs.size := (Array.getElem?_eq_some_iff.1 hg).1
  have A := h.ari
  rcases h.kids hlt with rfl | ⟨h1, h2⟩ | hk
  · exact main_step L h hg hr
  · have hQ : S.stg i0 = .Q := by have := A.old i0 h1 h2; revert this; cases S.stg i0 <;> simp [isQ]
    exact Goal.next (quit L h hg (by omega) hQ hr)
  · unfold kid at hk
    rcases Nat.lt_or_ge i0 (c.b + S.j) with h2 | h2
    · obtain ⟨i, rfl⟩ : ∃ i, i0 = c.b + i := ⟨i0 - c.b, by omega⟩
      exact worker_step L h (by omega) hg hr
    · cases hcl : S.cl with
      | false => rw [hcl] at hk; simp at hk; omega
      | true =>
        rw [hcl] at hk
        obtain ⟨hj, _⟩ := A.cs hcl
        simp at hk
        obtain rfl : i0 = c.b + c.n := by omega
        exact closer_step L h hcl hg hr
end
theorem pool_runs (L : Laws c) : ∀ (m : Mu) {S : St} {gs : Array Goroutine} {w : World} {sl : Option (Nat × Nat)} {t : Trace}, mu c S gs.size = m → Inv c Shun S gs w t →
    ∃ N gs' w' sl' t', runNT c.P N (crowd gs w sl) t = (.next (crowd gs' w' sl'), t') ∧ Done c Shun gs' w' t' := by
  intro m
  refine Lt.wf.induction (C := fun m => ∀ {S : St} {gs : Array Goroutine} {w : World} {sl : Option (Nat × Nat)} {t : Trace}, mu c S gs.size = m → Inv c Shun S gs w t → ∃ N gs' w' sl' t', runNT c.P N (crowd gs w sl) t = (.next (crowd gs' w' sl'), t') ∧ Done c Shun gs' w' t') m ?_
  intro m ih S gs w sl t hm h
  obtain ⟨i, g, d, sl1, hg, hr, hst⟩ := crowd_pick (P := c.P) (w := w) (sl := sl) h.wakes (h.runs L)
  obtain ⟨gs1, w1, ops, hrun, hx⟩ := any_step (sl := sl1) L (h.at L d) hg hr
  rcases hx with ⟨S1, hI, hlt⟩ | hD
  · obtain ⟨N, gs', w', sl', t', hN, hD⟩ := ih _ (hm ▸ hlt) (sl := sl1) rfl hI
    exact ⟨N + 1, gs', w', sl', t', by simp only [runNT, hst, hrun]; exact hN, hD⟩
  · exact ⟨1, gs1, w1, sl1, _, by simp only [runNT, hst, hrun], hD⟩
end Pool
end Go.Proofs.YtdkpbobglogmoaaGreat
