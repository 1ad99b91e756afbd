/- Parts of the proof of TopCommandsProof: PoolWork PoolClose PoolLook PoolNew PoolSend PoolRule. -/
import Derived.Conc.TokenWalk
import Derived.Test.YtdkpbobglogmoaaGreatTk7
import Derived.Test.YtdkpbobglogmoaaGreatTk12
set_option linter.unusedVariables false
set_option linter.unusedSimpArgs false
set_option maxRecDepth 100000
set_option maxHeartbeats 32000000
namespace Go.Proofs.YtdkpbobglogmoaaGreat
open Go Go.Conc Go.RowKit Go.Conc.Lib Go.ConcR.Gen Go.ConcN.Gen
open Go.ConcR (KK wgBlock WgAt stA smA rd wr mk DC0)
open Go.ConcN (sumTo WgLive)
namespace Pool
open Ren (Loc.blk Rely Gt Gk Rk Terms Did EvO New With)
theorem Gt.op {T : Terms} {Stop : Stp} {d : Nat} {O : Nat → Prop} {b : Frame} {a : Act} {k : List Item} {cs : List Frame} {w : World} {ops : Array Oper} {i : Nat} {rest : List Nat} {o : Oper} {v : Value}
    (ho : ops[i]? = some o) (hw : Region.wanted o (yielded ops a.tmps) = true) (hk : b.kind ≠ .early) (hr : ∀ w1, Rely T.Cold T.Liv O w w1 → (execOp a.eval o).run T.P w1 = .ok (.value v) w1)
    (he : ∀ w1, Rely T.Cold T.Liv O w w1 → ∀ e ∈ listed T.P b.fn a o w1, EvO T.Cold O T.Say w1.heap.size e ∧ e.loc ≠ .mark .disable ∧ e.loc ≠ .mark .enable)
    (k' : Gt T Stop d O (G (b.at (a.put o.dst v) (.inRegion ops rest :: k)) cs) w) : Gt T Stop d O (G (b.at a (.inRegion ops (i :: rest) :: k)) cs) w := by
  have st : ∀ w1, Rely T.Cold T.Liv O w w1 → stepG T.P T.main (G (b.at a (.inRegion ops (i :: rest) :: k)) cs) w1 = .go (G (b.at (a.put o.dst v) (.inRegion ops rest :: k)) cs) w1 (listed T.P b.fn a o w1) := fun w1 r => stepG_value ho hw hk (hr w1 r)
  refine .step rfl (fun w1 r => ⟨_, _, _, st w1 r, ⟨Nat.le_refl _, fun _ _ _ => rfl, ⟨rfl, rfl, rfl⟩, fun e hx => ?_⟩, id, fun _ => rfl, fun _ e hx => (he w1 r e hx).2⟩) fun w1 g' w' es r e => ?_
  · have := (he w1 r e hx).1
    exact ⟨fun x hx => by obtain ⟨b, h1, h2⟩ := this.touch x hx; exact ⟨b, h1, h2.imp .inl id⟩, this.still, this.low⟩
  · rw [st w1 r] at e
    injection e with q1 q2 q3
    subst q1 q2 q3
    rw [Ren.with_self, deafBehind_still (fun e hx => (he w1 r e hx).2)]
    exact k'.rely r
theorem array26 (T : Array Value) (h : T.size = 26) : ∃ v0 v1 v2 v3 v4 v5 v6 v7 v8 v9 v10 v11 v12 v13 v14 v15 v16 v17 v18 v19 v20 v21 v22 v23 v24 v25 : Value, T = #[v0, v1, v2, v3, v4, v5, v6, v7, v8, v9, v10, v11, v12, v13, v14, v15, v16, v17, v18, v19, v20, v21, v22, v23, v24, v25] := by
  obtain ⟨l⟩ := T
  simp only [List.size_toArray] at h
  match l, h with
  | [v0, v1, v2, v3, v4, v5, v6, v7, v8, v9, v10, v11, v12, v13, v14, v15, v16, v17, v18, v19, v20, v21, v22, v23, v24, v25], _ => exact ⟨v0, v1, v2, v3, v4, v5, v6, v7, v8, v9, v10, v11, v12, v13, v14, v15, v16, v17, v18, v19, v20, v21, v22, v23, v24, v25, rfl⟩
noncomputable def body39 : Code := Tryz.f39.body.getD .skip
noncomputable def loop39 : Code := match body39 with | .seq _ (.block _ (.loop c)) => c | _ => .skip
noncomputable def ops4 : Array Oper := match loop39 with | .block _ (.seq _ (.seq _ (.seq _ (.region _ ops _)))) => ops | _ => #[]
noncomputable def b39 : Frame := baseD 39
noncomputable def bot39 : Frame := { (default : Frame) with fn := Tryz.prog.funcs.size, defers := [], mode := .panicking [goexitEntry] }
def dd39 (Wg : Nat) : Deferred := { target := .fn (.func 40) #[], args := #[.pointer (some ⟨Wg, 0, none⟩)] }
def call39 (Wg A bp bc : Nat) : Deferred := { target := .fn (.func 39) #[.pointer (some ⟨Wg, 0, none⟩), .pointer (some ⟨A, 0, none⟩), .pointer (some ⟨bp, 0, none⟩), .pointer (some ⟨bc, 0, none⟩)], args := #[] }
theorem born39 (Wg A bp bc : Nat) (w : World) : stepG Tryz.prog false (born Tryz.prog (call39 Wg A bp bc)) w =
    .go (G (b39.at ⟨#[.pointer (some ⟨Wg, 0, none⟩), .pointer (some ⟨A, 0, none⟩), .pointer (some ⟨bp, 0, none⟩), .pointer (some ⟨bc, 0, none⟩), undef, undef, undef, undef, undef, undef, undef, undef, undef, undef, undef, undef, undef, undef, undef, undef, undef, undef, undef, undef, undef, undef], []⟩ [.code body39]) [bot39]) w #[] := by
  simp [born, call39, stepG, unwind, callDeferred, invoke, callFunc, Tryz.func39, Tryz.f39, seen, GStep.after, G, Frame.enter, Frame.at, b39, baseD, bot39, body39]
def AtBack (Wg A bp bc : Nat) (g : Goroutine) : Prop := ∃ T : Array Value, T.size = 26 ∧ T[0]? = some (.pointer (some ⟨Wg, 0, none⟩)) ∧ T[1]? = some (.pointer (some ⟨A, 0, none⟩)) ∧ T[2]? = some (.pointer (some ⟨bp, 0, none⟩)) ∧ T[3]? = some (.pointer (some ⟨bc, 0, none⟩)) ∧
  g = G (b39.at ⟨T, [dd39 Wg]⟩ [.inRegion ops4 [], .inBlock 1, .inLoop loop39, .inBlock 0]) [bot39]
theorem f64_n : (Tryz.f64.name == "runtime.NumGoroutine") = false := by kernel_rfl
theorem f64_b : Tryz.f64.body.isNone = true := by kernel_rfl
theorem f64_x : Extern.findNext Tryz.f64 = none := by kernel_rfl
theorem f64_f : Extern.find Tryz.f64 = some (Extern.Atomic.update (Op.intArith .add) .i64 true) := by kernel_rfl
theorem f41_n : (Tryz.f41.name == "runtime.NumGoroutine") = false := by kernel_rfl
def AtRound (Wg A bp bc : Nat) (g : Goroutine) : Prop := ∃ T : Array Value, T.size = 26 ∧ T[0]? = some (.pointer (some ⟨Wg, 0, none⟩)) ∧ T[1]? = some (.pointer (some ⟨A, 0, none⟩)) ∧ T[2]? = some (.pointer (some ⟨bp, 0, none⟩)) ∧ T[3]? = some (.pointer (some ⟨bc, 0, none⟩)) ∧
  g = G (b39.at ⟨T, [dd39 Wg]⟩ [.code loop39, .inLoop loop39, .inBlock 0]) [bot39]
structure Boxes (bp pg len bc C : Nat) (w : World) : Prop where
  bp : w.cell? ⟨bp, 0, none⟩ = some (.slice (some ⟨pg, 0, none⟩) len len)
  bc : w.cell? ⟨bc, 0, none⟩ = some (.chan (some C))
theorem cell_cold {c : Cfg} {O : Nat → Prop} {w₀ w : World} (r : Rely c.Cold c.Liv O w₀ w) {b : Nat} (hb : c.Cold b) (n : Nat) : w.cell? ⟨b, n, none⟩ = w₀.cell? ⟨b, n, none⟩ := by
  unfold World.cell?
  rw [r.cold b hb]
theorem Cfg.Liv.setA {c : Cfg} {w : World} (h : c.Liv w) {v : Nat} (hw : CtAt c w v) (v' : Nat) : c.Liv (w.setCell ⟨c.A, 0, none⟩ (.int .i64 v')) ∧ CtAt c (w.setCell ⟨c.A, 0, none⟩ (.int .i64 v')) v' := by
  obtain ⟨n1, n2, n3⟩ := h.ne
  obtain ⟨⟨st, sm, h1⟩, _, buf, cl, s, r, h3⟩ := h
  have hc : CtAt c (w.setCell ⟨c.A, 0, none⟩ (.int .i64 v')) v' := by
    unfold CtAt at hw ⊢
    unfold World.setCell
    simp only
    rw [Array.getElem?_modify, if_pos rfl, hw]
    rfl
  exact ⟨⟨⟨st, sm, (setCell_other _ _ _ n1).trans h1⟩, ⟨v', hc⟩, buf, cl, s, r, (setCell_other _ _ _ (Ne.symm n3)).trans h3⟩, hc⟩
theorem rely_setA {c : Cfg} {O : Nat → Prop} {w : World} {v : Value} (h : c.Liv w → c.Liv (w.setCell ⟨c.A, 0, none⟩ v)) (hO : ¬ O c.A) (hC : ¬ c.Cold c.A) : Rely c.Cold c.Liv O w (w.setCell ⟨c.A, 0, none⟩ v) :=
  ⟨by simp [World.setCell], fun b hb => setCell_other _ _ _ fun e => hO (by rw [← show b = c.A from e]; exact hb), fun b hb => setCell_other _ _ _ fun e => hC (by rw [← show b = c.A from e]; exact hb), ⟨rfl, rfl⟩, h⟩
theorem quits39 (T : Array Value) (todo : List Item) : QuitsD Tryz.prog 2 0 (G { b39.at ⟨T, []⟩ todo with mode := .returning } [bot39]) := by
  refine QuitsD.ctl (g' := G bot39 []) rfl (fun w => ?_) ?_
  · simp [G, stepG, unwind, doReturn, results, Frame.at, b39, baseD, bot39, Tryz.func39, Tryz.f39, seen, GStep.after, goexitEntry]
  refine QuitsD.ctl (g' := { G bot39 [] with status := .finished }) rfl (fun w => ?_) ⟨rfl, rfl⟩
  simp [G, stepG, unwind, bot39, goexitEntry, Frame.catches]
  rfl
theorem doneG {c : Cfg} (hP : c.P = Tryz.prog) (hty : c.ty = L.tWg) {fr : Frame} {cs : List Frame} {qt : Nat} {O : Nat → Prop} (hcm : fr.mode = .returning) (hT : QuitsD c.P qt 0 (G fr cs)) (w : World) (hF : c.Liv w) :
    Gt c.Tw (AtRel c) 0 O (G ((baseD L.done).at ⟨#[.pointer (some ⟨c.Wg, 0, none⟩), undef, undef, undef], []⟩ [.code (body_done L)]) (fr :: cs)) w := by
  have hA := @addNeg L Tryz.prog H c hP hty
  obtain ⟨P, ty, aty, Wg, A, C, n, N, bb, Cold, Item, Lp, Mp, Fin, ChC, Anc⟩ := c
  simp only at hP hty
  subst hP hty
  have H' := H
  simp only [body_done, body_add, doneFn, addFn, Option.getD_some] at hA ⊢
  refine Gt.of_goes3 (n := 10) hF ?_
  show Goes Tryz.prog false _ _ _ _ _ _
  u_reg rlv hF
  u_op rlv hF
  u_in rlv hF
  refine goes_call rfl rfl (by k_ne) rfl H.f_add (nm_add L) rfl ⟨by u_nil, ?_⟩
  walk_nrmf addFn
  refine Goes.stop (fun w₁ h₁ => ?_)
  replace hF := rlv hF h₁
  clear h₁
  intro _ _
  refine hA (qt := qt + 3) ?_ _ hF
  q_c stepG_region_end
  q_c stepG_end
  exact QuitsD.leaveD rfl rfl H.f_done rfl hcm hT
noncomputable def code34 : Code := match loop39 with | .block _ (.seq _ (.seq _ c)) => c | _ => .skip
structure Slots (Wg A bp bc : Nat) (T : Array Value) : Prop where
  size : T.size = 26
  t0 : T[0]? = some (.pointer (some ⟨Wg, 0, none⟩))
  t1 : T[1]? = some (.pointer (some ⟨A, 0, none⟩))
  t2 : T[2]? = some (.pointer (some ⟨bp, 0, none⟩))
  t3 : T[3]? = some (.pointer (some ⟨bc, 0, none⟩))
theorem toFetch {c : Cfg} (hP : c.P = Tryz.prog) (hty : c.ty = L.tWg) {bp bc pg : Nat} {w₀ : World} (hN : c.N < 4611686018427387904) (hB : Boxes bp pg c.N bc c.C w₀) (hbp : c.Cold bp) (hbl : bp < w₀.heap.size)
    (hgo : ∀ (T : Array Value) (v : Nat) (w : World), Slots c.Wg c.A bp bc T → T[4]? = some (.int .i64 v) → v < c.N → c.Liv w → Rely c.Cold c.Liv None w₀ w → Gt c.Tw (AtSend c v) 0 None (G (b39.at ⟨T, [dd39 c.Wg]⟩ [.code code34, .inBlock 1, .inLoop loop39, .inBlock 0]) [bot39]) w)
    {g : Goroutine} {w : World} (h : AtRound c.Wg c.A bp bc g) (hF : c.Liv w) (hR : Rely c.Cold c.Liv None w₀ w) (hCA : ¬ c.Cold c.A) : Gt c.Tw (AtFetch c) 0 None g w := by
  have hdone := @doneG c hP hty
  obtain ⟨P, ty, aty, Wg, A, C, n, N, bb, Cold, Item, Lp, Mp, Fin, ChC, Anc⟩ := c
  simp only at hP hty hN hB hbp hCA
  subst hP hty
  obtain ⟨T, hT, t0, t1, t2, t3, rfl⟩ := h
  obtain ⟨v0, v1, v2, v3, v4, v5, v6, v7, v8, v9, v10, v11, v12, v13, v14, v15, v16, v17, v18, v19, v20, v21, v22, v23, v24, v25, rfl⟩ := array26 T hT
  simp only [List.getElem?_toArray, List.getElem?_cons_zero, List.getElem?_cons_succ, Option.some.injEq] at t0 t1 t2 t3
  subst t0 t1 t2 t3
  simp only [code34, loop39, body39, body_done, doneFn, Tryz.f39, Option.getD_some] at hgo hdone ⊢
  refine Gt.of_goes3 (n := 60) hF ?_
  show Goes Tryz.prog false _ _ _ _ _ _
  u_c stepG_block rlv hF
  u_c stepG_seq rlv hF
  u_reg rlv hF
  u_call Tryz.func41 f41_n Tryz.f41 rlv hF
  u_c stepG_seq rlv hF
  u_reg rlv hF
  u_op rlv hF
  u_c stepG_region_end rlv hF
  u_c stepG_seq rlv hF
  u_reg rlv hF
  u_op rlv hF
  u_op rlv hF
  u_op rlv hF
  u_op rlv hF
  refine Goes.stop (fun w₁ h₁ => ?_)
  replace hF := rlv hF h₁
  clear h₁
  intro _ r₁
  replace hR := hR.trans r₁
  clear r₁
  refine .stop fun w₂ r₂ => ?_
  replace hF := r₂.liv hF
  replace hR := hR.trans r₂
  clear r₂
  refine ⟨rfl, rfl, fun v hv hw => ?_⟩
  have hc : w₂.cell? ⟨A, 0, none⟩ = some (.int .i64 v) := by unfold CtAt at hw; simp [World.cell?, hw]
  have hz : w₂.frozen? ⟨A, 0, none⟩ = false := by unfold CtAt at hw; simp [World.frozen?, hw]
  have hwr : IntKind.i64.wrap ((v : Int) + 1) = ((v + 1 : Nat) : Int) := by rw [IntKind.wrap_i64]; omega
  have hwr2 : IntKind.i64.wrap (((v + 1 : Nat) : Int) - 1) = (v : Int) := by rw [IntKind.wrap_i64]; omega
  have hwr3 : IntKind.i64.wrap (v : Int) = (v : Int) := by rw [IntKind.wrap_i64]; omega
  have hsz : bp < w₂.heap.size := Nat.lt_of_lt_of_le hbl hR.size
  have hF' := (Cfg.Liv.setA hF hw (v + 1)).1
  have hR' := hR.trans (rely_setA (fun _ => hF') id hCA)
  refine ⟨_, _, (stepG_add_atomic rfl rfl (by k_ne) rfl Tryz.func64 f64_n f64_b f64_x .i64 f64_f rfl rfl hc hz).trans (by rw [hwr]), fun e he => ?_, fun hlt => ?_, fun hge => ?_⟩
  · simp only [List.mem_toArray, List.mem_cons, List.not_mem_nil, or_false] at he
    rcases he with rfl | rfl <;> exact ⟨rfl, rfl⟩
  · clear hF hR
    replace hF := hF'
    replace hR := hR'
    clear hF' hR' hc hz hw
    walk_nrm
    refine Gt.of_goes3 (n := 60) hF ?_
    show Goes Tryz.prog false _ _ _ _ _ _
    u_op rlv hF
    u_c stepG_region_end rlv hF
    u_c stepG_ret' rlv hF
    u_leave1 Tryz.func41 rlv hF
    u_op rlv hF
    u_op rlv hF
    u_c stepG_region_end rlv hF
    u_c stepG_seq rlv hF
    u_c stepG_seq rlv hF
    u_reg rlv hF
    u_op rlv hF
    refine Goes.stop (fun w₁ h₁ => ?_)
    replace hF := rlv hF h₁
    clear h₁
    intro _ r₁
    replace hR := hR.trans r₁
    clear r₁
    refine Gt.op (v := .slice (some ⟨pg, 0, none⟩) N N) rfl rfl (by k_ne) (fun w1 r => ?_) (fun w1 r e he => ?_) ?_
    · have hcell := (cell_cold (c := ⟨Tryz.prog, L.tWg, aty, Wg, A, C, n, N, bb, Cold, Item, Lp, Mp, Fin, ChC, Anc⟩) (hR.trans r) hbp 0).trans hB.bp
      show Sem.run Tryz.prog _ _ = _
      simp [go_sem, execOp, Act.eval, hcell]
    · have hcell := (cell_cold (c := ⟨Tryz.prog, L.tWg, aty, Wg, A, C, n, N, bb, Cold, Item, Lp, Mp, Fin, ChC, Anc⟩) (hR.trans r) hbp 0).trans hB.bp
      have hm := mem_listed (show e ∈ listed Tryz.prog _ _ _ _ from he)
      simp [go_sem, execOp, Act.eval, hcell] at hm
      subst hm
      exact ⟨⟨fun x hx => ⟨bp, (by cases hx; rfl), .inr (.inl ⟨hbp, (by cases hx; rfl)⟩)⟩, fun a h => (by cases h), Nat.lt_of_lt_of_le hbl (hR.trans r).size⟩, by simp, by simp⟩
    walk_nrm
    refine Gt.of_goes3 (n := 30) hF ?_
    show Goes Tryz.prog false _ _ _ _ _ _
    u_op rlv hF
    u_op rlv hF
    u_c stepG_region_end rlv hF
    have hlt2 : v < N := hlt
    have hq : decide ((N : Int) ≤ (v : Int)) = false := decide_eq_false (by omega)
    u_cnd false rlv hF
    u_c stepG_skip rlv hF
    refine Goes.stop (fun w₁ h₁ => ?_)
    replace hF := rlv hF h₁
    clear h₁
    intro _ r₁
    replace hR := hR.trans r₁
    clear r₁
    exact hgo _ v _ ⟨by simp, by simp, by simp, by simp, by simp⟩ (by simp) hlt hF hR
  · clear hF hR
    replace hF := hF'
    replace hR := hR'
    clear hF' hR' hc hz hw
    walk_nrm
    refine Gt.of_goes3 (n := 60) hF ?_
    show Goes Tryz.prog false _ _ _ _ _ _
    u_op rlv hF
    u_c stepG_region_end rlv hF
    u_c stepG_ret' rlv hF
    u_leave1 Tryz.func41 rlv hF
    u_op rlv hF
    u_op rlv hF
    u_c stepG_region_end rlv hF
    u_c stepG_seq rlv hF
    u_c stepG_seq rlv hF
    u_reg rlv hF
    u_op rlv hF
    refine Goes.stop (fun w₁ h₁ => ?_)
    replace hF := rlv hF h₁
    clear h₁
    intro _ r₁
    replace hR := hR.trans r₁
    clear r₁
    refine Gt.op (v := .slice (some ⟨pg, 0, none⟩) N N) rfl rfl (by k_ne) (fun w1 r => ?_) (fun w1 r e he => ?_) ?_
    · have hcell := (cell_cold (c := ⟨Tryz.prog, L.tWg, aty, Wg, A, C, n, N, bb, Cold, Item, Lp, Mp, Fin, ChC, Anc⟩) (hR.trans r) hbp 0).trans hB.bp
      show Sem.run Tryz.prog _ _ = _
      simp [go_sem, execOp, Act.eval, hcell]
    · have hcell := (cell_cold (c := ⟨Tryz.prog, L.tWg, aty, Wg, A, C, n, N, bb, Cold, Item, Lp, Mp, Fin, ChC, Anc⟩) (hR.trans r) hbp 0).trans hB.bp
      have hm := mem_listed (show e ∈ listed Tryz.prog _ _ _ _ from he)
      simp [go_sem, execOp, Act.eval, hcell] at hm
      subst hm
      exact ⟨⟨fun x hx => ⟨bp, (by cases hx; rfl), .inr (.inl ⟨hbp, (by cases hx; rfl)⟩)⟩, fun a h => (by cases h), Nat.lt_of_lt_of_le hbl (hR.trans r).size⟩, by simp, by simp⟩
    walk_nrm
    refine Gt.of_goes3 (n := 30) hF ?_
    show Goes Tryz.prog false _ _ _ _ _ _
    u_op rlv hF
    u_op rlv hF
    u_c stepG_region_end rlv hF
    have hge2 : N ≤ v := hge
    have hq : decide ((N : Int) ≤ (v : Int)) = true := decide_eq_true (by omega)
    u_cnd true rlv hF
    u_c stepG_ret' rlv hF
    u_in rlv hF
    rw [stepG_unwind_enter rfl H.f_done (nm_done L) rfl]
    simp only [goes_go]
    refine ⟨by u_nil, ?_⟩
    walk_nrmf doneFn
    refine Goes.stop (fun w₁ h₁ => ?_)
    replace hF := rlv hF h₁
    clear h₁
    intro _ r₁
    replace hR := hR.trans r₁
    clear r₁
    exact hdone rfl (quits39 _ _) _ hF
theorem fromBack {c : Cfg} (hP : c.P = Tryz.prog) {bp bc : Nat} {w₀ : World} {Stop : Stp}
    (hgo : ∀ g w, AtRound c.Wg c.A bp bc g → c.Liv w → Rely c.Cold c.Liv None w₀ w → Gt c.Tw Stop 0 None g w)
    {g : Goroutine} {w : World} (h : AtBack c.Wg c.A bp bc g) (hF : c.Liv w) (hR : Rely c.Cold c.Liv None w₀ w) : Gt c.Tw Stop 0 None g w := by
  obtain ⟨P, ty, aty, Wg, A, C, n, N, bb, Cold, Item, Lp, Mp, Fin, ChC, Anc⟩ := c
  simp only at hP
  subst hP
  obtain ⟨T, hT, t0, t1, t2, t3, rfl⟩ := h
  refine Gt.of_goes3 (n := 10) hF ?_
  show Goes Tryz.prog false _ _ _ _ _ _
  u_c stepG_region_end rlv hF
  u_c stepG_inBlock rlv hF
  u_c stepG_inLoop rlv hF
  refine Goes.stop (fun w₁ h₁ => ?_)
  replace hF := rlv hF h₁
  clear h₁
  intro _ r₁
  replace hR := hR.trans r₁
  clear r₁
  exact hgo _ _ ⟨T, hT, t0, t1, t2, t3, rfl⟩ hF hR
theorem fromBorn {c : Cfg} (hP : c.P = Tryz.prog) {bp bc : Nat} {w₀ : World} {Stop : Stp}
    (hgo : ∀ g w, AtRound c.Wg c.A bp bc g → c.Liv w → Rely c.Cold c.Liv None w₀ w → Gt c.Tw Stop 0 None g w)
    {w : World} (hF : c.Liv w) (hR : Rely c.Cold c.Liv None w₀ w) : Gt c.Tw Stop 0 None (born Tryz.prog (call39 c.Wg c.A bp bc)) w := by
  obtain ⟨P, ty, aty, Wg, A, C, n, N, bb, Cold, Item, Lp, Mp, Fin, ChC, Anc⟩ := c
  simp only at hP
  subst hP
  refine Ren.Gt.idle rfl (fun w1 r => born39 Wg A bp bc w1) ?_
  have hl : loop39 = loop39 := rfl
  simp only [AtRound] at hgo
  simp only [loop39, body39, Tryz.f39, Option.getD_some] at hgo ⊢
  refine Gt.of_goes3 (n := 20) hF ?_
  show Goes Tryz.prog false _ _ _ _ _ _
  u_c stepG_seq rlv hF
  u_reg rlv hF
  u_defer rlv hF
  u_c stepG_region_end rlv hF
  u_c stepG_block rlv hF
  u_c stepG_loop rlv hF
  refine Goes.stop (fun w₁ h₁ => ?_)
  replace hF := rlv hF h₁
  clear h₁
  intro _ r₁
  replace hR := hR.trans r₁
  clear r₁
  exact hgo _ _ ⟨_, by simp, by simp, by simp, by simp, by simp, rfl⟩ hF hR
end Pool
end Go.Proofs.YtdkpbobglogmoaaGreat
namespace Go.Proofs.YtdkpbobglogmoaaGreat
open Go Go.Conc Go.RowKit Go.Conc.Lib Go.ConcR.Gen Go.ConcN.Gen
open Go.ConcR (KK wgBlock WgAt stA smA rd wr mk DC0)
open Go.ConcN (sumTo WgLive)
namespace Pool
open Ren (Loc.blk Rely Gt Gk Rk Terms Did EvO New With)
noncomputable def body43 : Code := Tryz.f43.body.getD .skip
noncomputable def ops0c : Array Oper := match body43 with | .seq (.region _ ops _) _ => ops | _ => #[]
noncomputable def rest43 : Code := match body43 with | .seq _ c => c | _ => .skip
noncomputable def b43 : Frame := baseD 43
noncomputable def bot43 : Frame := { (default : Frame) with fn := Tryz.prog.funcs.size, defers := [], mode := .panicking [goexitEntry] }
def call43 (Wg bc : Nat) : Deferred := { target := .fn (.func 43) #[.pointer (some ⟨Wg, 0, none⟩), .pointer (some ⟨bc, 0, none⟩)], args := #[] }
theorem born43 (Wg bc : Nat) (w : World) : stepG Tryz.prog false (born Tryz.prog (call43 Wg bc)) w =
    .go (G (b43.at ⟨#[.pointer (some ⟨Wg, 0, none⟩), .pointer (some ⟨bc, 0, none⟩), undef, undef], []⟩ [.code body43]) [bot43]) w #[] := by
  simp [born, call43, stepG, unwind, callDeferred, invoke, callFunc, Tryz.func43, Tryz.f43, seen, GStep.after, G, Frame.enter, Frame.at, b43, baseD, bot43, body43]
noncomputable def wait43 (Wg bc : Nat) : Frame := b43.at ⟨#[.pointer (some ⟨Wg, 0, none⟩), .pointer (some ⟨bc, 0, none⟩), undef, undef], []⟩ [.inRegion ops0c [0], .code rest43]
theorem quits43 (T : Array Value) (todo : List Item) : QuitsD Tryz.prog 2 0 (G { b43.at ⟨T, []⟩ todo with mode := .returning } [bot43]) := by
  refine QuitsD.ctl (g' := G bot43 []) rfl (fun w => ?_) ?_
  · simp [G, stepG, unwind, doReturn, results, Frame.at, b43, baseD, bot43, Tryz.func43, Tryz.f43, seen, GStep.after, goexitEntry]
  refine QuitsD.ctl (g' := { G bot43 [] with status := .finished }) rfl (fun w => ?_) ⟨rfl, rfl⟩
  simp [G, stepG, unwind, bot43, goexitEntry, Frame.catches]
  rfl
theorem toClose {c : Cfg} (hP : c.P = Tryz.prog) (hty : c.ty = L.tWg) {bp bc pg : Nat} {w₀ : World} (hB : Boxes bp pg c.N bc c.C w₀) (hbc : c.Cold bc) (hbl : bc < w₀.heap.size) (w : World) (hF : c.Liv w) (hR : Rely c.Cold c.Liv None w₀ w) :
    Gt c.Tc (AtClose c) 0 None (G (b43.at ((⟨#[.pointer (some ⟨c.Wg, 0, none⟩), .pointer (some ⟨bc, 0, none⟩), undef, undef], []⟩ : Act).put ((ops0c[0]?).bind (·.dst)) (.tuple #[])) (.inRegion ops0c [] :: [.code rest43])) [bot43]) w := by
  obtain ⟨P, ty, aty, Wg, A, C, n, N, bb, Cold, Item, Lp, Mp, Fin, ChC, Anc⟩ := c
  simp only at hP hty hB hbc
  subst hP hty
  simp only [ops0c, rest43, body43, Tryz.f43, Option.getD_some]
  walk_nrm
  refine Gt.of_goes3 (n := 20) hF ?_
  show Goes Tryz.prog false _ _ _ _ _ _
  u_c stepG_region_end rlv hF
  u_reg rlv hF
  refine Goes.stop (fun w₁ h₁ => ?_)
  replace hF := rlv hF h₁
  clear h₁
  intro _ r₁
  replace hR := hR.trans r₁
  clear r₁
  refine Gt.op (v := .chan (some C)) rfl rfl (by k_ne) (fun w1 r => ?_) (fun w1 r e he => ?_) ?_
  · have hcell := (cell_cold (c := ⟨Tryz.prog, L.tWg, aty, Wg, A, C, n, N, bb, Cold, Item, Lp, Mp, Fin, ChC, Anc⟩) (hR.trans r) hbc 0).trans hB.bc
    show Sem.run Tryz.prog _ _ = _
    simp [go_sem, execOp, Act.eval, hcell]
  · have hcell := (cell_cold (c := ⟨Tryz.prog, L.tWg, aty, Wg, A, C, n, N, bb, Cold, Item, Lp, Mp, Fin, ChC, Anc⟩) (hR.trans r) hbc 0).trans hB.bc
    have hm := mem_listed (show e ∈ listed Tryz.prog _ _ _ _ from he)
    simp [go_sem, execOp, Act.eval, hcell] at hm
    subst hm
    exact ⟨⟨fun x hx => ⟨bc, (by cases hx; rfl), .inr (.inl ⟨hbc, (by cases hx; rfl)⟩)⟩, fun a h => (by cases h), Nat.lt_of_lt_of_le hbl (hR.trans r).size⟩, by simp, by simp⟩
  walk_nrm
  refine .stop fun w₂ r₂ => ?_
  replace hR := hR.trans r₂
  clear r₂ hF
  refine ⟨rfl, rfl, rfl, fun buf s r hch => ?_⟩
  refine ⟨_, 4, (stepG_close rfl rfl (by k_ne) rfl rfl hch (by kernel_rfl)).trans rfl, ?_⟩
  q_c stepG_region_end
  q_c stepG_end
  exact quits43 _ _
theorem closerBorn {c : Cfg} (hP : c.P = Tryz.prog) (hty : c.ty = L.tWg) (hC : ¬ c.Cold c.Wg) {bp bc pg : Nat} {w₀ : World} (hB : Boxes bp pg c.N bc c.C w₀) (hbc : c.Cold bc) (hbl : bc < w₀.heap.size)
    (hAnc : ∀ g w', c.Liv w' → Rely c.Cold c.Liv None w₀ w' → (∃ m, Goes c.P false (fun w w1 => c.Liv w → c.Liv w1) DC0 (AtHead L c.Wg (wait43 c.Wg bc) [bot43]) m g w') → c.Anc g w')
    (hL0 : c.Liv w₀) (w : World) (hF : c.Liv w) (hR : Rely c.Cold c.Liv None w₀ w) : Gt c.Tc (AtW1 c) 0 None (born Tryz.prog (call43 c.Wg bc)) w := by
  have hT := fun w' (r : Rely c.Cold c.Liv None w₀ w') => toClose hP hty hB hbc hbl w' (r.liv hL0) r
  have hst := fun w hF hR => waitStart (c := c) (b₀ := b43) (a₀ := ⟨#[.pointer (some ⟨c.Wg, 0, none⟩), .pointer (some ⟨bc, 0, none⟩), undef, undef], []⟩) (ops₀ := ops0c) (i₀ := 0) (rest₀ := []) (k₀ := [.code rest43]) (cs := [bot43]) (w₀ := w₀) H hP hty hC hT hAnc w hF hR
  clear hT hAnc
  obtain ⟨P, ty, aty, Wg, A, C, n, N, bb, Cold, Item, Lp, Mp, Fin, ChC, Anc⟩ := c
  simp only at hP hty
  subst hP hty
  refine Ren.Gt.idle rfl (fun w1 r => born43 Wg bc w1) ?_
  simp only [ops0c, rest43, body43, body_wait, waitFn, Tryz.f43, Option.getD_some] at hst ⊢
  refine Gt.of_goes3 (n := 10) hF ?_
  show Goes Tryz.prog false _ _ _ _ _ _
  u_c stepG_seq rlv hF
  u_reg rlv hF
  u_call H.f_wait (nm_wait L) waitFn rlv hF
  refine Goes.stop (fun w₁ h₁ => ?_)
  replace hF := rlv hF h₁
  clear h₁
  intro _ r₁
  replace hR := hR.trans r₁
  clear r₁
  exact hst _ hF hR
end Pool
end Go.Proofs.YtdkpbobglogmoaaGreat
namespace Go.Proofs.YtdkpbobglogmoaaGreat
open Go Go.Conc Go.RowKit Go.Conc.Lib Go.ConcR.Gen Go.ConcN.Gen
open Go.ConcR (KK wgBlock WgAt stA smA rd wr mk DC0)
open Go.ConcN (sumTo WgLive)
namespace Pool
open Ren (Loc.blk Rely Gt Gk Rk Terms Did EvO New With)
@[go_sem] theorem run_mf (P : Program) (fn : Fn) (first cap : Array Value) (w : World) : (Instr.makeFunc fn first cap).run P w = .ok (.func fn first cap) w := rfl
@[go_sem] theorem events_mf (P : Program) (fn : Fn) (first cap : Array Value) (w : World) (es : Array Event) : (Instr.makeFunc fn first cap).events P w es = es := rfl
theorem array18 (T : Array Value) (h : T.size = 18) : ∃ v0 v1 v2 v3 v4 v5 v6 v7 v8 v9 v10 v11 v12 v13 v14 v15 v16 v17 : Value, T = #[v0, v1, v2, v3, v4, v5, v6, v7, v8, v9, v10, v11, v12, v13, v14, v15, v16, v17] := by
  obtain ⟨l⟩ := T
  simp only [List.size_toArray] at h
  match l, h with
  | [v0, v1, v2, v3, v4, v5, v6, v7, v8, v9, v10, v11, v12, v13, v14, v15, v16, v17], _ => exact ⟨v0, v1, v2, v3, v4, v5, v6, v7, v8, v9, v10, v11, v12, v13, v14, v15, v16, v17, rfl⟩
noncomputable def body26 : Code := Tryz.f26.body.getD .skip
noncomputable def spawn26 : Code := match body26 with | .seq _ (.seq _ (.seq _ (.seq _ c))) => c | _ => .skip
noncomputable def loop26 : Code := match spawn26 with | .seq (.seq _ (.block _ (.loop c))) _ => c | _ => .skip
noncomputable def tail26 : Code := match spawn26 with | .seq _ c => c | _ => .skip
noncomputable def ops26 : Array Oper := match tail26 with | .seq (.region _ ops _) _ => ops | _ => #[]
noncomputable def last26 : Code := match tail26 with | .seq _ c => c | _ => .skip
structure Slots26 (Wg A bp bc n i : Nat) (T : Array Value) : Prop where
  size : T.size = 18
  t2 : T[2]? = some (.pointer (some ⟨bp, 0, none⟩))
  t5 : T[5]? = some (.pointer (some ⟨bc, 0, none⟩))
  t6 : T[6]? = some (.pointer (some ⟨A, 0, none⟩))
  t7 : T[7]? = some (.pointer (some ⟨Wg, 0, none⟩))
  t10 : T[10]? = some (.int .i64 n)
  t11 : T[11]? = some (.int .i64 i)
def AtSpawn (Wg A bp bc n i : Nat) (K : List Frame) (g : Goroutine) : Prop := ∃ T : Array Value, Slots26 Wg A bp bc n i T ∧ g = G ((base 26).at ⟨T, []⟩ [.code loop26, .inLoop loop26, .inBlock 0, .code tail26]) K
section
variable {c : Cfg} {bp bc : Nat} {w₀ : World} {O : Nat → Prop} {K : List Frame}
theorem spawnLast (hP : c.P = Tryz.prog) (hc : ∀ w, c.Liv w → Rely c.Cold c.Liv O w₀ w → c.ChC (born Tryz.prog (call43 c.Wg bc)) w)
    (hMp : ∀ T w, T.size = 18 → T[5]? = some (.pointer (some ⟨bc, 0, none⟩)) → c.Liv w → Rely c.Cold c.Liv O w₀ w → c.Mp [] O (G ((base 26).at ⟨T, []⟩ [.inRegion ops26 [], .code last26]) K) w)
    {g : Goroutine} (w : World) (h : AtSpawn c.Wg c.A bp bc c.n c.n K g) (hF : c.Liv w) (hR : Rely c.Cold c.Liv O w₀ w) : Gt c.Tm (AtGo c c.ChC (c.Mp [])) 0 O g w := by
  obtain ⟨P, ty, aty, Wg, A, C, n, N, bb, Cold, Item, Lp, Mp, Fin, ChC, Anc⟩ := c
  simp only at hP
  subst hP
  obtain ⟨T, ⟨hT, t2, t5, t6, t7, t10, t11⟩, rfl⟩ := h
  obtain ⟨v0, v1, v2, v3, v4, v5, v6, v7, v8, v9, v10, v11, v12, v13, v14, v15, v16, v17, rfl⟩ := array18 T hT
  simp only [List.getElem?_toArray, List.getElem?_cons_zero, List.getElem?_cons_succ, Option.some.injEq] at t2 t5 t6 t7 t10 t11
  subst t2 t5 t6 t7 t10 t11
  simp only [ops26, last26, tail26, loop26, spawn26, body26, Tryz.f26, Option.getD_some] at hMp ⊢
  have hq : decide ((n : Int) < (n : Int)) = false := decide_eq_false (by omega)
  refine Gt.of_goes3 (n := 30) hF ?_
  show Goes Tryz.prog true _ _ _ _ _ _
  u_c stepG_seq rlv hF
  u_reg rlv hF
  u_op rlv hF
  u_c stepG_region_end rlv hF
  u_c stepG_seq rlv hF
  u_cnd false rlv hF
  u_exit rlv hF
  u_c stepG_seq rlv hF
  u_reg rlv hF
  u_op rlv hF
  refine Goes.stop (fun w₁ h₁ => ?_)
  replace hF := rlv hF h₁
  clear h₁
  intro _ r₁
  replace hR := hR.trans r₁
  clear r₁
  refine .stop fun w₂ r₂ => ?_
  replace hF := r₂.liv hF
  replace hR := hR.trans r₂
  clear r₂
  refine ⟨rfl, rfl, _, _, (stepG_spawn (d := call43 Wg bc) (w' := w₂) rfl rfl (by k_ne) (by simp [go_sem, Act.eval, call43, Deferred.ofValue]) rfl).trans (by rw [listed_none (by simp [go_sem, Act.eval, Deferred.ofValue])]), rfl, hc _ hF hR, ?_⟩
  walk_nrm
  exact hMp _ _ (by simp) (by simp) hF hR
theorem spawnStep (hP : c.P = Tryz.prog) (hty : c.ty = L.tWg) (hL0 : c.Liv w₀) (hO : ¬ O c.Wg) (hC : ¬ c.Cold c.Wg) (hn : c.n < 2147483647) (hl : ∀ w, c.Liv w → Rely c.Cold c.Liv O w₀ w → c.Lp (born Tryz.prog (call39 c.Wg c.A bp bc)) w)
    {r i : Nat} (hi : i < c.n) (hnext : ∀ g w, AtSpawn c.Wg c.A bp bc c.n (i + 1) K g → c.Liv w → Rely c.Cold c.Liv O w₀ w → Starts c r O g w)
    (hback : ∀ O g w, (∃ m, Goes c.P true (fun w w1 => c.Liv w → c.Liv w1) DC0 (fun g' w1 => c.Liv w1 → Rely c.Cold c.Liv O w w1 → Starts c r O g' w1) m g w) → c.Liv w → Starts c r O g w)
    {g : Goroutine} (w : World) (h : AtSpawn c.Wg c.A bp bc c.n i K g) (hF : c.Liv w) (hR : Rely c.Cold c.Liv O w₀ w) : Gt c.Tm (AtAddS c (AtGo c c.Lp (Starts c r))) 0 O g w := by
  have hadd := @addPos L Tryz.prog H c hP hty
  obtain ⟨P, ty, aty, Wg, A, C, n, N, bb, Cold, Item, Lp, Mp, Fin, ChC, Anc⟩ := c
  simp only at hP hty
  subst hP hty
  obtain ⟨T, ⟨hT, t2, t5, t6, t7, t10, t11⟩, rfl⟩ := h
  obtain ⟨v0, v1, v2, v3, v4, v5, v6, v7, v8, v9, v10, v11, v12, v13, v14, v15, v16, v17, rfl⟩ := array18 T hT
  simp only [List.getElem?_toArray, List.getElem?_cons_zero, List.getElem?_cons_succ, Option.some.injEq] at t2 t5 t6 t7 t10 t11
  subst t2 t5 t6 t7 t10 t11
  simp only [AtSpawn] at hnext
  simp only [tail26, loop26, spawn26, body26, body_add, addFn, Tryz.f26, Option.getD_some] at hadd hnext ⊢
  have hi2 : i < n := hi
  have hn2 : n < 2147483647 := hn
  have hq : decide ((i : Int) < (n : Int)) = true := decide_eq_true (by omega)
  have hwr : IntKind.i64.wrap ((i : Int) + 1) = ((i + 1 : Nat) : Int) := by rw [IntKind.wrap_i64]; omega
  refine Gt.of_goes3 (n := 30) hF ?_
  show Goes Tryz.prog true _ _ _ _ _ _
  u_c stepG_seq rlv hF
  u_reg rlv hF
  u_op rlv hF
  u_c stepG_region_end rlv hF
  u_c stepG_seq rlv hF
  u_cnd true rlv hF
  u_c stepG_skip rlv hF
  u_c stepG_seq rlv hF
  u_c stepG_block rlv hF
  u_c stepG_seq rlv hF
  u_reg rlv hF
  u_call H.f_add (nm_add L) addFn rlv hF
  refine Goes.stop (fun w₁ h₁ => ?_)
  replace hF := rlv hF h₁
  clear h₁
  intro _ r₁
  replace hR := hR.trans r₁
  clear r₁
  refine hadd hO hC w₀ (fun w' r' => ?_) _ hF hR
  replace hF := r'.liv hL0
  clear hR
  have hR := r'
  clear r'
  walk_nrm
  refine Gt.of_goes3 (n := 10) hF ?_
  show Goes Tryz.prog true _ _ _ _ _ _
  u_c stepG_region_end rlv hF
  u_reg rlv hF
  u_op rlv hF
  refine Goes.stop (fun w₁ h₁ => ?_)
  replace hF := rlv hF h₁
  clear h₁
  intro _ r₁
  replace hR := hR.trans r₁
  clear r₁
  refine .stop fun w₂ r₂ => ?_
  replace hF := r₂.liv hF
  replace hR := hR.trans r₂
  clear r₂
  refine ⟨rfl, rfl, _, _, (stepG_spawn (d := call39 Wg A bp bc) (w' := w₂) rfl rfl (by k_ne) (by simp [go_sem, Act.eval, call39, Deferred.ofValue]) rfl).trans (by rw [listed_none (by simp [go_sem, Act.eval, Deferred.ofValue])]), rfl, hl _ hF hR, ?_⟩
  walk_nrm
  refine hback _ _ _ ⟨30, ?_⟩ hF
  show Goes Tryz.prog true _ _ _ _ _ _
  u_c stepG_region_end rlv hF
  u_c stepG_inBlock rlv hF
  u_reg rlv hF
  u_op rlv hF
  u_op rlv hF
  u_c stepG_region_end rlv hF
  u_c stepG_inLoop rlv hF
  refine Goes.stop (fun w₁ h₁ => ?_)
  intro hF r₁
  exact hnext _ _ ⟨_, ⟨by simp, by simp, by simp, by simp, by simp, by simp, by simp [hwr]⟩, rfl⟩ hF (hR.trans r₁)
theorem starts_back (r : Nat) (O : Nat → Prop) (g : Goroutine) (w : World) (h : ∃ m, Goes c.P true (fun w w1 => c.Liv w → c.Liv w1) DC0 (fun g' w1 => c.Liv w1 → Rely c.Cold c.Liv O w w1 → Starts c r O g' w1) m g w) (hL : c.Liv w) : Starts c r O g w := by
  obtain ⟨m, hm⟩ := h
  cases r with
  | zero => exact Gt.of_goes3 (T := c.Tm) hL hm
  | succ r => exact Gt.of_goes3 (T := c.Tm) hL hm
theorem spawns (hP : c.P = Tryz.prog) (hty : c.ty = L.tWg) (hL0 : c.Liv w₀) (hO : ¬ O c.Wg) (hC : ¬ c.Cold c.Wg) (hn : c.n < 2147483647) (hl : ∀ w, c.Liv w → Rely c.Cold c.Liv O w₀ w → c.Lp (born Tryz.prog (call39 c.Wg c.A bp bc)) w)
    (hc : ∀ w, c.Liv w → Rely c.Cold c.Liv O w₀ w → c.ChC (born Tryz.prog (call43 c.Wg bc)) w)
    (hMp : ∀ T w, T.size = 18 → T[5]? = some (.pointer (some ⟨bc, 0, none⟩)) → c.Liv w → Rely c.Cold c.Liv O w₀ w → c.Mp [] O (G ((base 26).at ⟨T, []⟩ [.inRegion ops26 [], .code last26]) K) w) :
    ∀ (r i : Nat), i + r + 1 = c.n → ∀ (g : Goroutine) (w : World), AtSpawn c.Wg c.A bp bc c.n i K g → c.Liv w → Rely c.Cold c.Liv O w₀ w → Gt c.Tm (AtAddS c (AtGo c c.Lp (Starts c r))) 0 O g w := by
  intro r
  induction r with
  | zero =>
    intro i hi g w h hF hR
    refine spawnStep (r := 0) hP hty hL0 hO hC hn hl (by omega) (fun g w h hF hR => ?_) (starts_back 0) w h hF hR
    rw [show i + 1 = c.n by omega] at h
    exact spawnLast hP hc hMp w h hF hR
  | succ r ih =>
    intro i hi g w h hF hR
    have hnx : ∀ g w, AtSpawn c.Wg c.A bp bc c.n (i + 1) K g → c.Liv w → Rely c.Cold c.Liv O w₀ w → Starts c (r + 1) O g w := fun g w h hF hR => ih (i + 1) (by omega) g w h hF hR
    exact spawnStep hP hty hL0 hO hC hn hl (by omega) hnx (starts_back (r + 1)) w h hF hR
end
end Pool
end Go.Proofs.YtdkpbobglogmoaaGreat
namespace Go.Proofs.YtdkpbobglogmoaaGreat
open Go Go.Conc Go.RowKit Go.Conc.Lib Go.ConcR.Gen Go.ConcN.Gen
open Go.ConcR (KK wgBlock WgAt stA smA rd wr mk DC0)
open Go.ConcN (sumTo WgLive)
namespace Pool
open Ren (Loc.blk Rely Gt Gk Rk Terms Did EvO New With)
noncomputable def body11 : Code := Tryz.f11.body.getD .skip
noncomputable def from5 : Code := match body11 with | .seq _ (.seq _ (.seq _ c)) => c | _ => .skip
noncomputable def ops5 : Array Oper := match from5 with | .seq (.seq (.region _ ops _) _) _ => ops | _ => #[]
noncomputable def loopB : Code := match from5 with | .seq (.seq _ b) _ => b | _ => .skip
noncomputable def tail13 : Code := match from5 with | .seq _ t => t | _ => .skip
noncomputable def round6 : Code := match loopB with | .block _ (.loop x) => x | _ => .skip
noncomputable def ops6 : Array Oper := match round6 with | .seq (.region _ ops _) _ => ops | _ => #[]
noncomputable def behind6 : Code := match round6 with | .seq _ c => c | _ => .skip
noncomputable def b11 : Frame := base 11
noncomputable def recvAt (T : Array Value) (K : List Frame) (l : List Nat) : Goroutine := G (b11.at ⟨T, []⟩ [.inRegion ops6 l, .code behind6, .inLoop round6, .inBlock 0, .code tail13]) K
noncomputable def lookAt (T : Array Value) : Frame := b11.at ⟨T, []⟩ [.inRegion ops5 [2], .code loopB, .code tail13]
section
variable {c : Cfg} {bp bc pg : Nat} {w₀ : World} {O : Nat → Prop} {K : List Frame}
theorem lookBack (hP : c.P = Tryz.prog) (hB : Boxes bp pg c.N bc c.C w₀) (hbc : c.Cold bc) (hbl : bc < w₀.heap.size) {Stop : Stp} {T T11 : Array Value} (hT : T.size = 18) (t5 : T[5]? = some (.pointer (some ⟨bc, 0, none⟩)))
    (hk : ∀ w, c.Liv w → Rely c.Cold c.Liv O w₀ w → Gt c.Tr Stop 0 O (recvAt (T11.setIfInBounds 24 (.chan (some c.C))) K [0, 1]) w)
    (w : World) (hF : c.Liv w) (hR : Rely c.Cold c.Liv O w₀ w) : Gt c.Tr Stop 0 O (G ((base 26).at ⟨T, []⟩ [.inRegion ops26 [], .code last26]) (lookAt T11 :: K)) w := by
  obtain ⟨P, ty, aty, Wg, A, C, n, N, bb, Cold, Item, Lp, Mp, Fin, ChC, Anc⟩ := c
  simp only at hP hB hbc
  subst hP
  obtain ⟨v0, v1, v2, v3, v4, v5, v6, v7, v8, v9, v10, v11, v12, v13, v14, v15, v16, v17, rfl⟩ := array18 T hT
  simp only [List.getElem?_toArray, List.getElem?_cons_zero, List.getElem?_cons_succ, Option.some.injEq] at t5
  subst t5
  simp only [recvAt, lookAt, ops6, behind6, round6, loopB, tail13, ops5, from5, body11, ops26, last26, tail26, spawn26, body26, Tryz.f26, Tryz.f11, Option.getD_some] at hk ⊢
  refine Gt.of_goes3 (n := 20) hF ?_
  show Goes Tryz.prog true _ _ _ _ _ _
  u_c stepG_region_end rlv hF
  u_c stepG_seq rlv hF
  u_reg rlv hF
  refine Goes.stop (fun w₁ h₁ => ?_)
  replace hF := rlv hF h₁
  clear h₁
  intro _ r₁
  replace hR := hR.trans r₁
  clear r₁
  refine Gt.op (v := .chan (some C)) rfl rfl (by k_ne) (fun w1 r => ?_) (fun w1 r e he => ?_) ?_
  · have hcell := (cell_cold (c := ⟨Tryz.prog, ty, aty, Wg, A, C, n, N, bb, Cold, Item, Lp, Mp, Fin, ChC, Anc⟩) (hR.trans r) hbc 0).trans hB.bc
    show Sem.run Tryz.prog _ _ = _
    simp [go_sem, execOp, Act.eval, hcell]
  · have hcell := (cell_cold (c := ⟨Tryz.prog, ty, aty, Wg, A, C, n, N, bb, Cold, Item, Lp, Mp, Fin, ChC, Anc⟩) (hR.trans r) hbc 0).trans hB.bc
    have hm := mem_listed (show e ∈ listed Tryz.prog _ _ _ _ from he)
    simp [go_sem, execOp, Act.eval, hcell] at hm
    subst hm
    exact ⟨⟨fun x hx => ⟨bc, (by cases hx; rfl), .inr (.inl ⟨hbc, (by cases hx; rfl)⟩)⟩, fun a h => (by cases h), Nat.lt_of_lt_of_le hbl (hR.trans r).size⟩, by simp, by simp⟩
  walk_nrm
  refine Gt.of_goes3 (n := 40) hF ?_
  show Goes Tryz.prog true _ _ _ _ _ _
  u_op rlv hF
  u_c stepG_region_end rlv hF
  u_c stepG_ret' rlv hF
  u_leave1 Tryz.func26 rlv hF
  u_c stepG_region_end rlv hF
  u_c stepG_block rlv hF
  u_c stepG_loop rlv hF
  u_c stepG_seq rlv hF
  u_reg rlv hF
  refine Goes.stop (fun w₁ h₁ => ?_)
  replace hF := rlv hF h₁
  clear h₁
  intro _ r₁
  replace hR := hR.trans r₁
  clear r₁
  exact hk _ hF hR
theorem served_recv (T : Array Value) (v : Value) : Conc.served (core (recvAt T K [0, 1])) v = recvAt (T.setIfInBounds 25 v) K [1] := by
  rfl
theorem atRecv (hP : c.P = Tryz.prog) (rs : List Nat) {T : Array Value} (t24 : T[24]? = some (.chan (some c.C)))
    (hitem : ∀ k v F w1, k < c.N → k ∉ rs → Rely c.Cold c.Liv O w₀ w1 → c.Item k v F w1 → Comes c O F w1 → c.Mp (rs ++ [k]) (fun b => O b ∨ F b) (recvAt (T.setIfInBounds 25 (Conc.recvd true v true)) K [1]) w1)
    (hfin : ∀ w1 z, Rely c.Cold c.Liv O w₀ w1 → c.Fin rs O (recvAt (T.setIfInBounds 25 (Conc.recvd true z false)) K [1]) w1)
    (w : World) (hR : Rely c.Cold c.Liv O w₀ w) : Gt c.Tr (AtRecv c rs) 0 O (recvAt T K [0, 1]) w := by
  obtain ⟨P, ty, aty, Wg, A, C, n, N, bb, Cold, Item, Lp, Mp, Fin, ChC, Anc⟩ := c
  simp only at hP
  subst hP
  have hz : ∃ z, ∀ w, Sem.run Tryz.prog (zeroValue 85) w = .ok z w := ⟨_, Tryz.zeroValue85⟩
  obtain ⟨z, hz⟩ := hz
  have eop : (ops6[0]'(by decide)).op = .recv 82 (.tmp 24) true := by rfl
  have ev : Act.eval ⟨T, []⟩ (.tmp 24) = .chan (some C) := by
    show T.getD 24 undef = _
    rw [Array.getD_eq_getD_getElem?, t24]
    rfl
  refine .stop fun w₂ r₂ => ?_
  refine ⟨rfl, rfl, z, ?_, fun k v F w1 hk hn r hi hc => ?_, fun w1 r => ?_⟩
  · show stepG Tryz.prog true (recvAt T K [0, 1]) w₂ = .comm (recvAt T K [0, 1]) _ _ _ _ _
    refine (stepG_comm (cases := #[rcase C z]) (blocking := true) (shape := .recv true) (w' := w₂) (o := ops6[0]'(by decide)) (by rfl) (by rfl) (by decide) ?_).trans ?_
    · unfold execOp
      simp only [eop]
      simp [go_sem, hz, ev, rcase, t24]
    · rw [listed_none (by
        unfold execOp
        simp only [eop]
        simp [go_sem, hz, ev, t24])]
      rfl
  · rw [served_recv]
    exact hitem k v F w1 hk hn ((hR.trans r₂).trans r) hi hc
  · rw [served_recv]
    exact hfin w1 z ((hR.trans r₂).trans r)
end
end Pool
end Go.Proofs.YtdkpbobglogmoaaGreat
namespace Go.Proofs.YtdkpbobglogmoaaGreat
open Go Go.Conc Go.RowKit Go.Conc.Lib Go.ConcR.Gen Go.ConcN.Gen
open Go.ConcR (KK wgBlock WgAt stA smA rd wr mk DC0)
open Go.ConcN (sumTo WgLive)
namespace Pool
open Ren (Loc.blk Rely Gt Gk Rk Terms Did EvO New With)
noncomputable def sendAt (Wg : Nat) (T : Array Value) (l : List Nat) : Goroutine := G (b39.at ⟨T, [dd39 Wg]⟩ [.inRegion ops4 l, .inBlock 1, .inLoop loop39, .inBlock 0]) [bot39]
section
variable {c : Cfg} {bp bc pg : Nat} {w₀ : World} {O : Nat → Prop}
theorem served_send (Wg : Nat) (T : Array Value) : Conc.served (core (sendAt Wg T [5])) undef = sendAt Wg T [] := by
  rfl
theorem atSend (hP : c.P = Tryz.prog) {k : Nat} {T : Array Value} {v : Value} (hs : Slots c.Wg c.A bp bc T) (t21 : T[21]? = some (.chan (some c.C))) (t25 : T[25]? = some v)
    (hlp : ∀ g w, AtBack c.Wg c.A bp bc g → c.Liv w → Rely c.Cold c.Liv None w₀ w → c.Lp g w)
    (w : World) (hF : c.Liv w) (hR : Rely c.Cold c.Liv None w₀ w) (hi : ∀ w', Rely c.Cold c.Liv O w w' → c.Item k v O w') : Gt c.Tw (AtSend c k) 0 O (sendAt c.Wg T [5]) w := by
  obtain ⟨P, ty, aty, Wg, A, C, n, N, bb, Cold, Item, Lp, Mp, Fin, ChC, Anc⟩ := c
  simp only at hP
  subst hP
  have eop : (ops4[5]'(by decide)).op = .send (.tmp 21) (.tmp 25) := by rfl
  refine .stop fun w₂ r₂ => ?_
  have hF₂ := r₂.liv hF
  refine ⟨rfl, rfl, .tuple #[], v, ?_, hi w₂ r₂, fun w1 r => ?_⟩
  · show stepG Tryz.prog false (sendAt Wg T [5]) w₂ = .comm (sendAt Wg T [5]) _ _ _ _ _
    refine (stepG_comm (cases := #[scase C v (.tuple #[])]) (blocking := true) (shape := .send) (w' := w₂) (o := ops4[5]'(by decide)) (by rfl) (by rfl) (by decide) ?_).trans ?_
    · unfold execOp
      simp only [eop]
      simp [go_sem, Act.eval, scase, t21, t25]
    · rw [listed_none (by
        unfold execOp
        simp only [eop]
        simp [go_sem, t21, t25])]
      rfl
  · rw [served_send]
    exact hlp _ _ ⟨T, hs.size, hs.t0, hs.t1, hs.t2, hs.t3, rfl⟩ (r.liv hF₂) ((hR.trans (relyN r₂)).trans r)
theorem region4 (hP : c.P = Tryz.prog) (hB : Boxes bp pg c.N bc c.C w₀) (hbc : c.Cold bc) (hbl : bc < w₀.heap.size) {k : Nat} {T : Array Value} (hs : Slots c.Wg c.A bp bc T) {b5 : Nat} {st kind lba seq : Int} {a : Option Addr} {len cap : Nat} (t4 : T[4]? = some (.int .i64 k)) (t5 : T[5]? = some (.pointer (some ⟨b5, 0, none⟩))) (t6 : T[6]? = some (.int .i64 st))
    (hO5 : O b5) (w : World) (hb5 : w.heap[b5]? = some (.cells #[.int .i64 kind, .int .i64 lba, .int .i64 seq, .slice a len cap] 46)) {Stop : Stp}
    (hk : ∀ T', Slots c.Wg c.A bp bc T' → T'[21]? = some (.chan (some c.C)) → T'[25]? = some (.agg #[.int .i64 k, .int .i64 kind, .int .i64 lba, .int .i64 seq, .slice a len cap, .int .i64 st]) → Gt c.Tw Stop 0 O (sendAt c.Wg T' [5]) w)
    (hR : Rely c.Cold c.Liv None w₀ w) : Gt c.Tw Stop 0 O (sendAt c.Wg T [0, 1, 2, 3, 4, 5]) w := by
  obtain ⟨P, ty, aty, Wg, A, C, n, N, bb, Cold, Item, Lp, Mp, Fin, ChC, Anc⟩ := c
  simp only at hP hB hbc
  subst hP
  obtain ⟨hT, t0, t1, t2, t3⟩ := hs
  obtain ⟨v0, v1, v2, v3, v4, v5, v6, v7, v8, v9, v10, v11, v12, v13, v14, v15, v16, v17, v18, v19, v20, v21, v22, v23, v24, v25, rfl⟩ := array26 T hT
  simp only [List.getElem?_toArray, List.getElem?_cons_zero, List.getElem?_cons_succ, Option.some.injEq] at t0 t1 t2 t3 t4 t5 t6
  subst t0 t1 t2 t3 t4 t5 t6
  simp only [sendAt, ops4, loop39, body39, Tryz.f39, Option.getD_some] at hk ⊢
  refine Gt.op (v := .chan (some C)) rfl rfl (by k_ne) (fun w1 r => ?_) (fun w1 r e he => ?_) ?_
  · have hcell := (cell_cold (c := ⟨Tryz.prog, ty, aty, Wg, A, C, n, N, bb, Cold, Item, Lp, Mp, Fin, ChC, Anc⟩) (hR.trans (relyN r)) hbc 0).trans hB.bc
    show Sem.run Tryz.prog _ _ = _
    simp [go_sem, execOp, Act.eval, hcell]
  · have hcell := (cell_cold (c := ⟨Tryz.prog, ty, aty, Wg, A, C, n, N, bb, Cold, Item, Lp, Mp, Fin, ChC, Anc⟩) (hR.trans (relyN r)) hbc 0).trans hB.bc
    have hm := mem_listed (show e ∈ listed Tryz.prog _ _ _ _ from he)
    simp [go_sem, execOp, Act.eval, hcell] at hm
    subst hm
    exact ⟨⟨fun x hx => ⟨bc, (by cases hx; rfl), .inr (.inl ⟨hbc, (by cases hx; rfl)⟩)⟩, fun a h => (by cases h), Nat.lt_of_lt_of_le hbl (hR.trans (relyN r)).size⟩, by simp, by simp⟩
  walk_nrm
  refine Gt.op (v := .int .i64 k) rfl rfl (by k_ne) (fun w1 r => ?_) (fun w1 r e he => ?_) ?_
  · show Sem.run Tryz.prog _ _ = _
    simp [go_sem, execOp, Act.eval]
  · have hm := mem_listed (show e ∈ listed Tryz.prog _ _ _ _ from he)
    simp [go_sem, execOp, Act.eval] at hm
  walk_nrm
  refine Gt.op (v := .agg #[.int .i64 kind, .int .i64 lba, .int .i64 seq, .slice a len cap]) rfl rfl (by k_ne) (fun w1 r => ?_) (fun w1 r e he => ?_) ?_
  · have hb := (r.own b5 hO5).trans hb5
    have q0 : w1.cell? ⟨b5, 0, none⟩ = some (.int .i64 kind) := by simp [World.cell?, hb]
    have q1 : w1.cell? ⟨b5, 1, none⟩ = some (.int .i64 lba) := by simp [World.cell?, hb]
    have q2 : w1.cell? ⟨b5, 2, none⟩ = some (.int .i64 seq) := by simp [World.cell?, hb]
    have q3 : w1.cell? ⟨b5, 3, none⟩ = some (.slice a len cap) := by simp [World.cell?, hb]
    show Sem.run Tryz.prog _ _ = _
    simp [go_sem, execOp, Act.eval, q0, q1, q2, q3]
  · have hb := (r.own b5 hO5).trans hb5
    have q0 : w1.cell? ⟨b5, 0, none⟩ = some (.int .i64 kind) := by simp [World.cell?, hb]
    have q1 : w1.cell? ⟨b5, 1, none⟩ = some (.int .i64 lba) := by simp [World.cell?, hb]
    have q2 : w1.cell? ⟨b5, 2, none⟩ = some (.int .i64 seq) := by simp [World.cell?, hb]
    have q3 : w1.cell? ⟨b5, 3, none⟩ = some (.slice a len cap) := by simp [World.cell?, hb]
    have hm := mem_listed (show e ∈ listed Tryz.prog _ _ _ _ from he)
    simp [go_sem, execOp, Act.eval, q0, q1, q2, q3] at hm
    have hlt : b5 < w1.heap.size := (Array.getElem?_eq_some_iff.1 hb).1
    rcases hm with rfl | rfl | rfl | rfl <;> exact ⟨⟨fun x hx => ⟨b5, (by cases hx; rfl), .inl hO5⟩, fun a h => (by cases h), hlt⟩, by simp, by simp⟩
  walk_nrm
  refine Gt.op (v := .int .i64 st) rfl rfl (by k_ne) (fun w1 r => ?_) (fun w1 r e he => ?_) ?_
  · show Sem.run Tryz.prog _ _ = _
    simp [go_sem, execOp, Act.eval]
  · have hm := mem_listed (show e ∈ listed Tryz.prog _ _ _ _ from he)
    simp [go_sem, execOp, Act.eval] at hm
  walk_nrm
  have hbd : ∀ w1, (Instr.build 85 #[(0, .int .i64 k), (1, .agg #[.int .i64 kind, .int .i64 lba, .int .i64 seq, .slice a len cap]), (2, .int .i64 st)]).run Tryz.prog w1 = .ok (.agg #[.int .i64 k, .int .i64 kind, .int .i64 lba, .int .i64 seq, .slice a len cap, .int .i64 st]) w1 := fun w1 => run_build w1 85 _ _ (by rfl)
  have hbe : ∀ w1 es, (Instr.build 85 #[(0, .int .i64 k), (1, .agg #[.int .i64 kind, .int .i64 lba, .int .i64 seq, .slice a len cap]), (2, .int .i64 st)]).events Tryz.prog w1 es = es := fun w1 es => by simp [Instr.build, go_sem]
  refine Gt.op (v := .agg #[.int .i64 k, .int .i64 kind, .int .i64 lba, .int .i64 seq, .slice a len cap, .int .i64 st]) rfl rfl (by k_ne) (fun w1 r => ?_) (fun w1 r e he => ?_) ?_
  · show Sem.run Tryz.prog _ _ = _
    simp [go_sem, execOp, Act.eval, hbd]
  · have hm := mem_listed (show e ∈ listed Tryz.prog _ _ _ _ from he)
    simp [go_sem, execOp, Act.eval, hbe] at hm
  walk_nrm
  exact hk _ ⟨by simp, by simp, by simp, by simp, by simp⟩ (by simp) (by simp)
end
end Pool
end Go.Proofs.YtdkpbobglogmoaaGreat
namespace Go.Proofs.YtdkpbobglogmoaaGreat
open Go Go.Conc
namespace Pool
open Ren (Loc.blk Rely Gt Gk Rk Terms Did EvO New With)
section
variable {T : Terms} {Stop : Stp} {d : Nat} {O : Nat → Prop} {b : Frame} {a : Act} {k : List Item} {cs : List Frame} {w : World} {ops : Array Oper} {i : Nat} {rest : List Nat} {o : Oper}
structure OpDid (T : Terms) (O : Nat → Prop) (w1 w' : World) (es : Array Event) : Prop where
  did : Did T.Cold O T.Say w1 w' es
  liv : T.Liv w1 → T.Liv w'
  hush : ∀ e ∈ es, e.loc ≠ .mark .disable ∧ e.loc ≠ .mark .enable
theorem Gt.opv (hc : ¬ T.Calm) (ho : ops[i]? = some o) (hw : Region.wanted o (yielded ops a.tmps) = true) (hk : b.kind ≠ .early)
    (h : ∀ w1, Rely T.Cold T.Liv O w w1 → ∃ v w', (execOp a.eval o).run T.P w1 = .ok (.value v) w' ∧ OpDid T O w1 w' (listed T.P b.fn a o w1) ∧ Gt T Stop d (With O w1 w') (G (b.at (a.put o.dst v) (.inRegion ops rest :: k)) cs) w') :
    Gt T Stop d O (G (b.at a (.inRegion ops (i :: rest) :: k)) cs) w := by
  refine .step rfl (fun w1 r => ?_) fun w1 g' w' es r e => ?_
  · obtain ⟨v, w', h1, h2, h3⟩ := h w1 r
    exact ⟨_, _, _, stepG_value ho hw hk h1, h2.did, h2.liv, fun x => absurd x hc, fun _ => h2.hush⟩
  · obtain ⟨v, w2, h1, h2, h3⟩ := h w1 r
    rw [show stepG T.P T.main _ w1 = _ from stepG_value ho hw hk h1] at e
    injection e with q1 q2 q3
    subst q1 q2 q3
    rw [deafBehind_still h2.hush]
    exact h3
theorem Gt.opn (hc : ¬ T.Calm) (ho : ops[i]? = some o) (hw : Region.wanted o (yielded ops a.tmps) = true) (hk : b.kind ≠ .early)
    (h : ∀ w1, Rely T.Cold T.Liv O w w1 → ∃ w', (execOp a.eval o).run T.P w1 = .ok .skip w' ∧ OpDid T O w1 w' (listed T.P b.fn a o w1) ∧ Gt T Stop d (With O w1 w') (G (b.at (a.put o.dst undef) (.inRegion ops rest :: k)) cs) w') :
    Gt T Stop d O (G (b.at a (.inRegion ops (i :: rest) :: k)) cs) w := by
  refine .step rfl (fun w1 r => ?_) fun w1 g' w' es r e => ?_
  · obtain ⟨w', h1, h2, h3⟩ := h w1 r
    exact ⟨_, _, _, stepG_none ho hw hk h1, h2.did, h2.liv, fun x => absurd x hc, fun _ => h2.hush⟩
  · obtain ⟨w2, h1, h2, h3⟩ := h w1 r
    rw [show stepG T.P T.main _ w1 = _ from stepG_none ho hw hk h1] at e
    injection e with q1 q2 q3
    subst q1 q2 q3
    rw [deafBehind_still h2.hush]
    exact h3
theorem OpDid.alloc (w1 : World) (ob : Obj) (hl : T.Liv w1 → T.Liv (w1.alloc ob)) : OpDid T O w1 (w1.alloc ob) #[] :=
  ⟨⟨by simp, fun b hb _ => Go.RowKit.Below.heap_alloc _ _ _ hb, ⟨rfl, rfl, rfl⟩, fun e he => by simp at he⟩, hl, fun e he => by simp at he⟩
end
end Pool
end Go.Proofs.YtdkpbobglogmoaaGreat
