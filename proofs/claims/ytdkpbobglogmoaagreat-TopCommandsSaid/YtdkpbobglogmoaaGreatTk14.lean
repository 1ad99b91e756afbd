/- Parts of the proof of TopCommandsProof: PoolReg3 PoolFrag Base RdB LeNum FrGet Base2 Splice FrPut Rd Crc States0 FrPack6. -/
import Derived.Test.YtdkpbobglogmoaaGreatProg
import Derived.ProofKit
import Derived.WalkKit
import Derived.BigQuiet
import Derived.Deep.QuietTactic
import Derived.Lib.Hide
import Derived.Lib.EndianBits
import Derived.IntWalk
import Derived.WalkSpells
import Derived.Deep.OwnRows
import Derived.Lib.SliceRun
import Derived.Shelf.Bytes.SlCountOne
import Derived.Lib.Strings
import Derived.Lib.Slices
import Derived.Lib.Walk
import Derived.Lib.Bytes
import Derived.Laws.CopyOwn
import Derived.StillTailTactics
import Derived.OpenShut
import Derived.ShutString
import Derived.ChangeOld
import Derived.Below
import Derived.SizedLaws
import Derived.Orders
import Derived.Test.YtdkpbobglogmoaaGreatTk6
import Derived.Test.YtdkpbobglogmoaaGreatTk13
set_option linter.unusedVariables false
set_option linter.unusedSimpArgs false
set_option maxRecDepth 100000
set_option maxHeartbeats 32000000
namespace Go.Proofs.YtdkpbobglogmoaaGreat
open Go Go.Conc Go.RowKit Go.Conc.Lib Go.ConcR.Gen Go.ConcN.Gen
open Go.ConcR (KK wgBlock WgAt stA smA rd wr mk DC0)
open Go.ConcN (sumTo WgLive)
namespace Pool
open Ren (Loc.blk Rely Gt Gk Rk Terms Did EvO New With)
noncomputable def ops3 : Array Oper := match code34 with | .seq (.region _ ops _) _ => ops | _ => #[]
noncomputable def reg4 : Code := match code34 with | .seq _ c => c | _ => .skip
noncomputable def openAt (Wg : Nat) (T : Array Value) (l : List Nat) : Frame := b39.at ⟨T, [dd39 Wg]⟩ [.inRegion ops3 l, .code reg4, .inBlock 1, .inLoop loop39, .inBlock 0]
section
variable {c : Cfg} {bp bc pg : Nat} {w₀ : World} {O : Nat → Prop}
theorem Cfg.Liv.alloc {w : World} (h : c.Liv w) (o : Obj) : c.Liv (w.alloc o) := by
  obtain ⟨⟨st, sm, h1⟩, ⟨v, h2⟩, buf, cl, s, r, h3⟩ := h
  have k : ∀ b x, w.heap[b]? = some x → (w.alloc o).heap[b]? = some x := fun b x hx => (Below.heap_alloc _ _ _ (Array.getElem?_eq_some_iff.1 hx).1).trans hx
  exact ⟨⟨st, sm, k _ _ h1⟩, ⟨v, k _ _ h2⟩, buf, cl, s, r, k _ _ h3⟩
theorem region3b (hP : c.P = Tryz.prog) {k : Nat} {T : Array Value} (hs : Slots c.Wg c.A bp bc T) {st kind lba seq : Int} {a : Option Addr} {len cap : Nat} (t4 : T[4]? = some (.int .i64 k)) (t18 : T[18]? = some (.tuple #[.agg #[.int .i64 kind, .int .i64 lba, .int .i64 seq, .slice a len cap], .int .i64 st]))
    (w : World) (hF : c.Liv w) {Stop : Stp}
    (hk : ∀ T' b5 w' O', Slots c.Wg c.A bp bc T' → T'[4]? = some (.int .i64 k) → T'[5]? = some (.pointer (some ⟨b5, 0, none⟩)) → T'[19]? = some (.agg #[.int .i64 kind, .int .i64 lba, .int .i64 seq, .slice a len cap]) → T'[20]? = some (.int .i64 st) → w'.heap[b5]? = some (.cells #[.int .i64 0, .int .i64 0, .int .i64 0, .slice none 0 0] 46) →
      c.Liv w' → Rely c.Cold c.Liv O w w' → (∀ b, O b → O' b) → O' b5 → (∀ b, O' b → O b ∨ b = b5) → w.heap.size ≤ b5 → Gt c.Tw Stop 0 O' (G (openAt c.Wg T' [9, 10]) [bot39]) w') (hC : ∀ b, c.Cold b → b < w.heap.size) (hO : ∀ b, O b → b < w.heap.size) : Gt c.Tw Stop 0 O (G (openAt c.Wg T [5, 6, 7, 8, 9, 10]) [bot39]) w := by
  obtain ⟨P, ty, aty, Wg, A, C, n, N, bb, Cold, Item, Lp, Mp, Fin, ChC, Anc⟩ := c
  simp only at hP
  subst hP
  obtain ⟨hT, t0, t1, t2, t3⟩ := hs
  obtain ⟨v0, v1, v2, v3, v4, v5, v6, v7, v8, v9, v10, v11, v12, v13, v14, v15, v16, v17, v18, v19, v20, v21, v22, v23, v24, v25, rfl⟩ := array26 T hT
  simp only [List.getElem?_toArray, List.getElem?_cons_zero, List.getElem?_cons_succ, Option.some.injEq] at t0 t1 t2 t3 t4 t18
  subst t0 t1 t2 t3 t4 t18
  simp only [openAt, ops3, reg4, code34, sendAt, ops4, loop39, body39, Tryz.f39, Option.getD_some] at hk ⊢
  refine Gt.op (v := .tuple #[.agg #[.int .i64 kind, .int .i64 lba, .int .i64 seq, .slice a len cap], .int .i64 st]) rfl rfl (by k_ne) (fun w1 r => ?_) (fun w1 r e he => ?_) ?_
  · show Sem.run Tryz.prog _ _ = _
    simp [go_sem, execOp, Act.eval]
  · have hm := mem_listed (show e ∈ listed Tryz.prog _ _ _ _ from he)
    simp [go_sem, execOp, Act.eval] at hm
  walk_nrm
  refine Gt.op (v := .agg #[.int .i64 kind, .int .i64 lba, .int .i64 seq, .slice a len cap]) rfl rfl (by k_ne) (fun w1 r => ?_) (fun w1 r e he => ?_) ?_
  · show Sem.run Tryz.prog _ _ = _
    simp [go_sem, execOp, Act.eval]
  · have hm := mem_listed (show e ∈ listed Tryz.prog _ _ _ _ from he)
    simp [go_sem, execOp, Act.eval] at hm
  walk_nrm
  refine Gt.op (v := .int .i64 st) rfl rfl (by k_ne) (fun w1 r => ?_) (fun w1 r e he => ?_) ?_
  · show Sem.run Tryz.prog _ _ = _
    simp [go_sem, execOp, Act.eval]
  · have hm := mem_listed (show e ∈ listed Tryz.prog _ _ _ _ from he)
    simp [go_sem, execOp, Act.eval] at hm
  walk_nrm
  refine Gt.opv (fun h => h) rfl rfl (by k_ne) (fun w1 r => ⟨.pointer (some ⟨w1.heap.size, 0, none⟩), w1.alloc (.cells #[.int .i64 0, .int .i64 0, .int .i64 0, .slice none 0 0] 46), ?_, ?_, ?_⟩)
  · show Sem.run Tryz.prog _ _ = _
    simp [go_sem, execOp, Act.eval]
  · show OpDid _ O w1 _ (listed Tryz.prog _ _ _ _)
    rw [listed_none (by simp [go_sem, execOp, Act.eval])]
    exact OpDid.alloc w1 _ fun h => Cfg.Liv.alloc h _
  walk_nrm
  have hnew := heap_alloc_new w1 (.cells #[.int .i64 0, .int .i64 0, .int .i64 0, .slice none 0 0] 46)
  have hlt := fun b (hb : b < w1.heap.size) => Below.heap_alloc w1 (.cells #[.int .i64 0, .int .i64 0, .int .i64 0, .slice none 0 0] 46) b hb
  refine hk _ w1.heap.size _ _ ⟨by simp, by simp, by simp, by simp, by simp⟩ (by simp) (by simp) (by simp) (by simp) hnew (Cfg.Liv.alloc (r.liv hF) _) (r.trans ⟨by simp, fun b hb => hlt b (Nat.lt_of_lt_of_le (hO b hb) r.size), fun b hb => hlt b (Nat.lt_of_lt_of_le (hC b hb) r.size), ⟨rfl, rfl⟩, fun h => Cfg.Liv.alloc h _⟩) (fun b hb => .inl hb) (.inr ⟨Nat.le_refl _, by simp⟩) (fun b hb => hb.imp id fun hn => ?_) r.size
  have h1 := hn.1
  have h2 : b < w1.heap.size + 1 := by have := hn.2; simpa using this
  omega
theorem Cfg.Liv.setRow {w : World} (h : c.Liv w) {b : Nat} (hb : b ≠ c.Wg ∧ b ≠ c.A ∧ b ≠ c.C) (cs : Array Value) : c.Liv (w.setRow b cs) := by
  obtain ⟨⟨st, sm, h1⟩, ⟨v, h2⟩, buf, cl, s, r, h3⟩ := h
  have k : ∀ b', b' ≠ b → (w.setRow b cs).heap[b']? = w.heap[b']? := fun b' hn => by
    unfold World.setRow
    simp only [Array.getElem?_modify]
    rw [if_neg (fun e => hn e.symm)]
  exact ⟨⟨st, sm, (k _ (Ne.symm hb.1)).trans h1⟩, ⟨v, (k _ (Ne.symm hb.2.1)).trans h2⟩, buf, cl, s, r, (k _ (Ne.symm hb.2.2)).trans h3⟩
theorem region3c (hP : c.P = Tryz.prog) {T : Array Value} (hs : Slots c.Wg c.A bp bc T) {b5 : Nat} {st kind lba seq : Int} {a : Option Addr} {len cap : Nat} (t5 : T[5]? = some (.pointer (some ⟨b5, 0, none⟩))) (t19 : T[19]? = some (.agg #[.int .i64 kind, .int .i64 lba, .int .i64 seq, .slice a len cap]))
    (hO5 : O b5) (hb : b5 ≠ c.Wg ∧ b5 ≠ c.A ∧ b5 ≠ c.C) (w : World) (hz : w.heap[b5]? = some (.cells #[.int .i64 0, .int .i64 0, .int .i64 0, .slice none 0 0] 46)) {Stop : Stp}
    (hk : ∀ w1, Rely c.Cold c.Liv O w w1 → Gt c.Tw Stop 0 O (G (openAt c.Wg T [10]) [bot39]) (w1.setRow b5 #[.int .i64 kind, .int .i64 lba, .int .i64 seq, .slice a len cap])) : Gt c.Tw Stop 0 O (G (openAt c.Wg T [9, 10]) [bot39]) w := by
  obtain ⟨P, ty, aty, Wg, A, C, n, N, bb, Cold, Item, Lp, Mp, Fin, ChC, Anc⟩ := c
  simp only at hP
  subst hP
  have eop : (ops3[9]'(by decide)).op = .store 46 (.tmp 5) (.tmp 19) := by rfl
  have e5 : Act.eval ⟨T, [dd39 Wg]⟩ (.tmp 5) = .pointer (some ⟨b5, 0, none⟩) := by
    show T.getD 5 undef = _
    rw [Array.getD_eq_getD_getElem?, t5]; rfl
  have e19 : Act.eval ⟨T, [dd39 Wg]⟩ (.tmp 19) = .agg #[.int .i64 kind, .int .i64 lba, .int .i64 seq, .slice a len cap] := by
    show T.getD 19 undef = _
    rw [Array.getD_eq_getD_getElem?, t19]; rfl
  refine Gt.opn (o := ops3[9]'(by decide)) (fun h => h) (by rfl) (by rfl) (by decide) (fun w1 r => ⟨w1.setRow b5 #[.int .i64 kind, .int .i64 lba, .int .i64 seq, .slice a len cap], ?_, ?_, ?_⟩)
  · have hz1 := (r.own b5 hO5).trans hz
    show Sem.run Tryz.prog (execOp (Act.eval ⟨T, [dd39 Wg]⟩) (ops3[9]'(by decide))) w1 = _
    unfold execOp
    simp only [eop, e5, e19, Instr.storeAt, Instr.sureAddr, Sem.run_bind, Sem.run_pure, Result.andThen_ok, run_storeVar_row (P := Tryz.prog) w1 b5 _ 46 _ #[.int .i64 kind, .int .i64 lba, .int .i64 seq, .slice a len cap] hz1 (by kernel_rfl) (by simp) (by simp [Value.oneCell'])]
  · have hz1 := (r.own b5 hO5).trans hz
    have hlt : b5 < w1.heap.size := (Array.getElem?_eq_some_iff.1 hz1).1
    have hev : ∀ e ∈ listed Tryz.prog 39 ⟨T, [dd39 Wg]⟩ (ops3[9]'(by decide)) w1, ∃ ad : Addr, e.loc = .cell ad ∧ ad.block = b5 := fun e he => by
      have hm := mem_listed he
      unfold execOp at hm
      simp only [eop, e5, e19] at hm
      have hsz : ∀ w, (sizeOf 46).run Tryz.prog w = .ok 4 w := Tryz.sizeOf46
      have hse : ∀ w es, (sizeOf 46).events Tryz.prog w es = es := fun w es => by simp [sizeOf, go_sem]
      simp [Instr.storeAt, Instr.sureAddr, storeVar, Value.cells, hsz, hse] at hm
      rcases events_storeCells_at (P := Tryz.prog) b5 0 46 [.int .i64 kind, .int .i64 lba, .int .i64 seq, .slice a len cap] 0 _ w1 #[] hz1 (by simp) (by simp [Value.oneCell']) e hm with h | h
      · simp at h
      · exact h
    refine ⟨⟨by simp [World.setRow], fun b hb hn => ?_, ⟨rfl, rfl, rfl⟩, fun e he => ?_⟩, fun h => Cfg.Liv.setRow h hb _, fun e he => ?_⟩
    · unfold World.setRow
      simp only [Array.getElem?_modify]
      rw [if_neg (fun e => hn (by rw [← e]; exact hO5))]
    · obtain ⟨ad, h1, h2⟩ := hev e he
      obtain ⟨l, x, y⟩ := e
      simp only at h1
      subst h1
      refine ⟨fun t ht => ⟨b5, ?_, .inl (.inl hO5)⟩, fun a h => (by cases h), ?_⟩
      · simp only [MemAct.ofEvent, MemAct.touch?, Option.some.injEq] at ht
        subst ht
        exact congrArg some h2
      · show ad.block < _
        simpa [World.setRow, h2] using hlt
    · obtain ⟨ad, h1, h2⟩ := hev e he
      rw [h1]
      simp
  · have hw : With O w1 (w1.setRow b5 #[.int .i64 kind, .int .i64 lba, .int .i64 seq, .slice a len cap]) = O := by
      funext b
      exact propext ⟨fun h => h.elim id fun hn => absurd hn.1 (Nat.not_le.2 (by have := hn.2; simpa [World.setRow] using this)), .inl⟩
    rw [hw]
    exact hk w1 r
theorem region3d (hP : c.P = Tryz.prog) {k : Nat} {T : Array Value} (hs : Slots c.Wg c.A bp bc T) {b5 : Nat} {st : Int} (t4 : T[4]? = some (.int .i64 k)) (t5 : T[5]? = some (.pointer (some ⟨b5, 0, none⟩))) (t20 : T[20]? = some (.int .i64 st))
    (w : World) (hF : c.Liv w) {Stop : Stp} (hk : ∀ T' w', Slots c.Wg c.A bp bc T' → T'[4]? = some (.int .i64 k) → T'[5]? = some (.pointer (some ⟨b5, 0, none⟩)) → T'[6]? = some (.int .i64 st) → c.Liv w' → Rely c.Cold c.Liv O w w' → Gt c.Tw Stop 0 O (sendAt c.Wg T' [0, 1, 2, 3, 4, 5]) w') :
    Gt c.Tw Stop 0 O (G (openAt c.Wg T [10]) [bot39]) w := by
  obtain ⟨P, ty, aty, Wg, A, C, n, N, bb, Cold, Item, Lp, Mp, Fin, ChC, Anc⟩ := c
  simp only at hP
  subst hP
  obtain ⟨hT, t0, t1, t2, t3⟩ := hs
  obtain ⟨v0, v1, v2, v3, v4, v5, v6, v7, v8, v9, v10, v11, v12, v13, v14, v15, v16, v17, v18, v19, v20, v21, v22, v23, v24, v25, rfl⟩ := array26 T hT
  simp only [List.getElem?_toArray, List.getElem?_cons_zero, List.getElem?_cons_succ, Option.some.injEq] at t0 t1 t2 t3 t4 t5 t20
  subst t0 t1 t2 t3 t4 t5 t20
  simp only [openAt, ops3, reg4, code34, sendAt, ops4, loop39, body39, Tryz.f39, Option.getD_some] at hk ⊢
  have hR := Ren.Rely.refl (Cold := Cold) (Liv := Cfg.Liv ⟨Tryz.prog, ty, aty, Wg, A, C, n, N, bb, Cold, Item, Lp, Mp, Fin, ChC, Anc⟩) (O := O) w
  refine Gt.of_goes3 (n := 20) hF ?_
  show Goes Tryz.prog false _ _ _ _ _ _
  u_op rlv hF
  u_c stepG_region_end rlv hF
  u_reg rlv hF
  refine Goes.stop (fun w₁ h₁ => ?_)
  replace hF := rlv hF h₁
  clear h₁
  intro _ r₁
  replace hR := hR.trans r₁
  clear r₁
  exact hk _ _ ⟨by simp, by simp, by simp, by simp, by simp⟩ (by simp) (by simp) (by simp) hF hR
theorem region3a (hP : c.P = Tryz.prog) (hB : Boxes bp pg c.N bc c.C w₀) (hbp : c.Cold bp) (hlbp : bp < w₀.heap.size) (hpg : c.Cold pg) (hlpg : pg < w₀.heap.size) {k : Nat} (hkN : k < c.N) {pv : Value} (hpv : w₀.cell? ⟨pg, k, none⟩ = some pv) {T : Array Value} (hs : Slots c.Wg c.A bp bc T) (t4 : T[4]? = some (.int .i64 k))
    (w : World) (hF : c.Liv w) (hR : Rely c.Cold c.Liv None w₀ w) {Stop : Stp} (hk : ∀ T' w', Slots c.Wg c.A bp bc T' → T'[4]? = some (.int .i64 k) → T'[17]? = some pv → c.Liv w' → Rely c.Cold c.Liv None w₀ w' → Gt c.Tw Stop 0 None (G (openAt c.Wg T' [4, 5, 6, 7, 8, 9, 10]) [bot39]) w') :
    Gt c.Tw Stop 0 None (G (b39.at ⟨T, [dd39 c.Wg]⟩ [.code code34, .inBlock 1, .inLoop loop39, .inBlock 0]) [bot39]) w := by
  obtain ⟨P, ty, aty, Wg, A, C, n, N, bb, Cold, Item, Lp, Mp, Fin, ChC, Anc⟩ := c
  simp only at hP hB hbp hpg hkN
  subst hP
  have hq : ¬ N ≤ k := by omega
  obtain ⟨hT, t0, t1, t2, t3⟩ := hs
  obtain ⟨v0, v1, v2, v3, v4, v5, v6, v7, v8, v9, v10, v11, v12, v13, v14, v15, v16, v17, v18, v19, v20, v21, v22, v23, v24, v25, rfl⟩ := array26 T hT
  simp only [List.getElem?_toArray, List.getElem?_cons_zero, List.getElem?_cons_succ, Option.some.injEq] at t0 t1 t2 t3 t4
  subst t0 t1 t2 t3 t4
  simp only [openAt, ops3, reg4, code34, loop39, body39, Tryz.f39, Option.getD_some] at hk ⊢
  refine Gt.of_goes3 (n := 20) hF ?_
  show Goes Tryz.prog false _ _ _ _ _ _
  u_c stepG_seq rlv hF
  u_reg rlv hF
  refine Goes.stop (fun w₁ h₁ => ?_)
  replace hF := rlv hF h₁
  clear h₁
  intro _ r₁
  replace hR := hR.trans r₁
  clear r₁
  refine Gt.op (v := .slice (some ⟨pg, 0, none⟩) N N) rfl rfl (by k_ne) (fun w1 r => ?_) (fun w1 r e he => ?_) ?_
  · have hcell := (cell_cold (c := ⟨Tryz.prog, ty, aty, Wg, A, C, n, N, bb, Cold, Item, Lp, Mp, Fin, ChC, Anc⟩) (hR.trans (relyN r)) hbp 0).trans hB.bp
    show Sem.run Tryz.prog _ _ = _
    simp [go_sem, execOp, Act.eval, hcell]
  · have hcell := (cell_cold (c := ⟨Tryz.prog, ty, aty, Wg, A, C, n, N, bb, Cold, Item, Lp, Mp, Fin, ChC, Anc⟩) (hR.trans (relyN r)) hbp 0).trans hB.bp
    have hm := mem_listed (show e ∈ listed Tryz.prog _ _ _ _ from he)
    simp [go_sem, execOp, Act.eval, hcell] at hm
    subst hm
    exact ⟨⟨fun x hx => ⟨bp, (by cases hx; rfl), .inr (.inl ⟨hbp, (by cases hx; rfl)⟩)⟩, fun a h => (by cases h), Nat.lt_of_lt_of_le hlbp (hR.trans (relyN r)).size⟩, by simp, by simp⟩
  walk_nrm
  refine Gt.op (v := .int .i64 k) rfl rfl (by k_ne) (fun w1 r => ?_) (fun w1 r e he => ?_) ?_
  · show Sem.run Tryz.prog _ _ = _
    simp [go_sem, execOp, Act.eval]
  · have hm := mem_listed (show e ∈ listed Tryz.prog _ _ _ _ from he)
    simp [go_sem, execOp, Act.eval] at hm
  walk_nrm
  refine Gt.op (v := .pointer (some ⟨pg, k, none⟩)) rfl rfl (by k_ne) (fun w1 r => ?_) (fun w1 r e he => ?_) ?_
  · show Sem.run Tryz.prog _ _ = _
    simp [go_sem, execOp, Act.eval, hq, hkN]
  · have hm := mem_listed (show e ∈ listed Tryz.prog _ _ _ _ from he)
    simp [go_sem, execOp, Act.eval, hq, hkN] at hm
  walk_nrm
  refine Gt.op (v := pv) rfl rfl (by k_ne) (fun w1 r => ?_) (fun w1 r e he => ?_) ?_
  · have hcell := (cell_cold (c := ⟨Tryz.prog, ty, aty, Wg, A, C, n, N, bb, Cold, Item, Lp, Mp, Fin, ChC, Anc⟩) (hR.trans (relyN r)) hpg k).trans hpv
    show Sem.run Tryz.prog _ _ = _
    simp [go_sem, execOp, Act.eval, hcell]
  · have hcell := (cell_cold (c := ⟨Tryz.prog, ty, aty, Wg, A, C, n, N, bb, Cold, Item, Lp, Mp, Fin, ChC, Anc⟩) (hR.trans (relyN r)) hpg k).trans hpv
    have hm := mem_listed (show e ∈ listed Tryz.prog _ _ _ _ from he)
    simp [go_sem, execOp, Act.eval, hcell] at hm
    subst hm
    exact ⟨⟨fun x hx => ⟨pg, (by cases hx; rfl), .inr (.inl ⟨hpg, (by cases hx; rfl)⟩)⟩, fun a h => (by cases h), Nat.lt_of_lt_of_le hlpg (hR.trans (relyN r)).size⟩, by simp, by simp⟩
  walk_nrm
  exact hk _ _ ⟨by simp, by simp, by simp, by simp, by simp⟩ (by simp) (by simp) hF hR
end
end Pool
end Go.Proofs.YtdkpbobglogmoaaGreat
namespace Go.Proofs.YtdkpbobglogmoaaGreat
open Go Ren
namespace Pool
def fsL : List Nat := [24, 23, 10, 34, 66, 108, 100, 99, 98, 67, 107, 97, 83, 82, 96, 81, 65, 42]
def fs (f : Nat) : Bool := fsL.contains f
def gl (g : Nat) : Bool := g == 0
theorem maxLenAt : Tryz.prog.globals.findIdx? (·.name == "internal/bytealg.MaxLen") = some 0 := by kernel_rfl
def AllB (P : Program) (L : List Nat) (q : Nat → Func → Bool) : Bool := L.all fun f => match P.funcs[f]? with | some fn => q f fn | none => false
theorem all_at {P : Program} {L : List Nat} {q : Nat → Func → Bool} (h : AllB P L q = true) {f : Nat} (hf : f ∈ L) : ∃ fn, P.funcs[f]? = some fn ∧ q f fn = true := by
  have := List.all_eq_true.1 h f hf
  cases e : P.funcs[f]? with
  | none => rw [e] at this; cases this
  | some fn => rw [e] at this; exact ⟨fn, rfl, this⟩
theorem allOk : AllB Tryz.prog fsL (fun _ fn => okFn Tryz.prog gl fs fn) = true := by kernel_rfl
def bareL : List Nat := [98, 107, 82]
theorem allBare : AllB Tryz.prog fsL (fun f fn => fn.body.isSome || bareL.contains f) = true := by kernel_rfl
theorem frag (Z : Env) : Frag Tryz.prog gl fs Z where
  fn f hf := by
    exact all_at allOk (List.contains_iff_mem.1 hf)
  ext f fn hf hfn hb := by
    obtain ⟨fn', e, this⟩ := all_at allBare (List.contains_iff_mem.1 hf)
    rw [hfn] at e
    cases e
    rw [hb] at this
    have hm : f ∈ bareL := List.contains_iff_mem.1 this
    simp only [bareL, List.mem_cons, List.not_mem_nil, or_false] at hm
    rcases hm with rfl | rfl | rfl
    · obtain rfl : fn = Tryz.f98 := Option.some.inj (hfn.symm.trans Tryz.func98)
      exact ⟨by kernel_rfl, by kernel_rfl, Extern.BytealgIndex.index, by kernel_rfl, fun R c d hg h => sim_index (fun g e => hg g (by rw [maxLenAt] at e; cases e; rfl)) h⟩
    · obtain rfl : fn = Tryz.f107 := Option.some.inj (hfn.symm.trans Tryz.func107)
      exact ⟨by kernel_rfl, by kernel_rfl, Extern.BytealgIndexByte.indexByte, by kernel_rfl, fun R c d hg h => sim_indexByte h⟩
    · obtain rfl : fn = Tryz.f82 := Option.some.inj (hfn.symm.trans Tryz.func82)
      exact ⟨by kernel_rfl, by kernel_rfl, Extern.BytealgCount.count, by kernel_rfl, fun R c d hg h => sim_count h⟩
end Pool
end Go.Proofs.YtdkpbobglogmoaaGreat
namespace Go.Proofs.YtdkpbobglogmoaaGreat
open Go.RowKit
def Blk (w : World) (b : Nat) (c : Array Value) (e : TypeId) : Prop := w.heap[b]? = some (.cells c e (0, 0))
theorem Blk.lt {w : World} {b : Nat} {c : Array Value} {e : TypeId} (h : Blk w b c e) : b < w.heap.size := by
  unfold Blk at h
  exact (Array.getElem?_eq_some_iff.1 h).1
theorem Blk.cell {w : World} {b : Nat} {c : Array Value} {e : TypeId} (h : Blk w b c e) (i : Nat) : w.cell? ⟨b, i, none⟩ = c[i]? := by
  unfold Blk at h
  simp [World.cell?, h]
theorem Blk.free {w : World} {b : Nat} {c : Array Value} {e : TypeId} (h : Blk w b c e) (i : Nat) : w.frozen? ⟨b, i, none⟩ = false := by
  unfold Blk at h
  simp [World.frozen?, h]
theorem Blk.set {w : World} {b : Nat} {c : Array Value} {e : TypeId} (h : Blk w b c e) (i : Nat) (v : Value) : Blk (w.setCell ⟨b, i, none⟩ v) b (c.setIfInBounds i v) e := by
  have hb := h.lt
  unfold Blk at h ⊢
  have hg := (Array.getElem?_eq_some_iff.1 h).2
  simp [World.setCell, Array.getElem?_modify, h]
theorem Blk.setOther {w : World} {b : Nat} {c : Array Value} {e : TypeId} (h : Blk w b c e) {a : Addr} (ha : a.block ≠ b) (v : Value) : Blk (w.setCell a v) b c e := by
  unfold Blk at h ⊢
  simp [World.setCell, Array.getElem?_modify, h, ha]
theorem Blk.alloc {w : World} {b : Nat} {c : Array Value} {e : TypeId} (h : Blk w b c e) (o : Obj) : Blk (w.alloc o) b c e := by
  have hb := h.lt
  unfold Blk at h ⊢
  simp only [World.alloc, Array.getElem?_push]
  rw [if_neg (by omega)]; exact h
theorem Blk.of {w : World} {b : Nat} {c c' : Array Value} {e : TypeId} (h : Blk w b c e) (hc : c = c') : Blk w b c' e := hc ▸ h
theorem Blk.drew {w : World} {b : Nat} {c : Array Value} {e : TypeId} (h : Blk w b c e) : Blk w.drew b c e := h
theorem Blk.new (w : World) (c : Array Value) (e : TypeId) : Blk (w.alloc (.cells c e (0, 0))) w.heap.size c e := by
  unfold Blk
  show (w.heap.push _)[w.heap.size]? = _
  simp
structure Keep (S : Nat → Prop) (w w' : World) : Prop where
  os : w'.os = w.os
  tape : w'.tape = w.tape
  output : w'.output = w.output
  size : w.heap.size ≤ w'.heap.size
  block : ∀ k, k < w.heap.size → ¬ S k → w'.heap[k]? = w.heap[k]?
theorem Keep.refl (S : Nat → Prop) (w : World) : Keep S w w := ⟨rfl, rfl, rfl, Nat.le_refl _, fun _ _ _ => rfl⟩
theorem Keep.trans {S : Nat → Prop} {a b c : World} (h : Keep S a b) (k : Keep S b c) : Keep S a c :=
  ⟨k.os.trans h.os, k.tape.trans h.tape, k.output.trans h.output, Nat.le_trans h.size k.size, fun i hi hs => (k.block i (Nat.lt_of_lt_of_le hi h.size) hs).trans (h.block i hi hs)⟩
theorem Keep.mono {S S' : Nat → Prop} {a b : World} (h : Keep S a b) (hs : ∀ k, k < a.heap.size → S k → S' k) : Keep S' a b :=
  ⟨h.os, h.tape, h.output, h.size, fun i hi hn => h.block i hi (fun q => hn (hs i hi q))⟩
theorem Keep.drew {S : Nat → Prop} {a w : World} (h : Keep S a w) : Keep S a w.drew := ⟨h.os, h.tape, h.output, h.size, h.block⟩
theorem Keep.drewN {S : Nat → Prop} {a w : World} (h : Keep S a w) (n : Nat) : Keep S a (w.drewN n) := ⟨h.os, h.tape, h.output, h.size, h.block⟩
theorem Keep.alloc {S : Nat → Prop} {a w : World} (h : Keep S a w) (o : Obj) : Keep S a (w.alloc o) :=
  ⟨h.os, h.tape, h.output, by have := h.size; show _ ≤ (w.heap.push o).size; simp; omega, fun k hk hs => by
    rw [Below.heap_alloc _ _ _ (Nat.lt_of_lt_of_le hk h.size)]; exact h.block k hk hs⟩
theorem Keep.setCell {S : Nat → Prop} {a w : World} (h : Keep S a w) {p : Addr} (hp : S p.block ∨ a.heap.size ≤ p.block) (v : Value) : Keep S a (w.setCell p v) :=
  ⟨h.os, h.tape, h.output, by have := h.size; simp [World.setCell]; omega, fun k hk hs => by
    rw [Below.heap_setCell _ _ _ _ (fun e => by subst e; exact hp.elim hs (by omega))]; exact h.block k hk hs⟩
theorem Keep.blk {S : Nat → Prop} {a w : World} (h : Keep S a w) {b : Nat} {c : Array Value} {e : TypeId} (hb : Blk a b c e) (hs : ¬ S b) : Blk w b c e := by
  unfold Blk
  rw [h.block b hb.lt hs]; exact hb
theorem Keep.cell {S : Nat → Prop} {a w : World} (h : Keep S a w) {p : Addr} (hp : p.block < a.heap.size) (hs : ¬ S p.block) : w.cell? p = a.cell? p :=
  World.cell?_of_block (h.block p.block hp hs)
theorem Keep.below {S : Nat → Prop} {a w : World} (h : Keep S a w) (B : Nat) (hB : B ≤ a.heap.size) (hs : ∀ k, S k → B ≤ k) : Below B a w :=
  ⟨h.os, h.tape, h.output, h.size, fun k hk => h.block k (Nat.lt_of_lt_of_le hk hB) (fun q => absurd (hs k q) (by omega))⟩
theorem Keep.ofBelow {S : Nat → Prop} {a w : World} {B : Nat} (h : Below B a w) (hs : ∀ k, k < a.heap.size → B ≤ k → S k) : Keep S a w :=
  ⟨h.os, h.tape, h.output, h.size, fun k hk hn => h.block k (Decidable.byContradiction fun q => hn (hs k hk (by omega)))⟩
end Go.Proofs.YtdkpbobglogmoaaGreat
namespace Go.Proofs.YtdkpbobglogmoaaGreat
open Go.RowKit
def RdB (w : World) (a : Option Addr) (xs : List Int) : Prop := xs.length = 0 ∨ ∃ b off, a = some ⟨b, off, none⟩ ∧ ∀ i, i < xs.length → w.cell? ⟨b, off + i, none⟩ = some (.int .u8 (xs.getD i 0))
end Go.Proofs.YtdkpbobglogmoaaGreat
namespace Go.Proofs.YtdkpbobglogmoaaGreat
def leNum : List Int → Int
  | [] => 0
  | a :: l => a + 256 * leNum l
def leDig : Nat → Int → List Int
  | 0, _ => []
  | k + 1, x => x % 256 :: leDig k (x / 256)
theorem leDig_length : ∀ (k : Nat) (x : Int), (leDig k x).length = k
  | 0, _ => rfl
  | k + 1, x => by simp [leDig, leDig_length k]
theorem leDig_byte : ∀ (k : Nat) (x : Int), ∀ y ∈ leDig k x, 0 ≤ y ∧ y ≤ 255
  | 0, _, y, h => by simp [leDig] at h
  | k + 1, x, y, h => by
    simp only [leDig, List.mem_cons] at h
    rcases h with rfl | h
    · omega
    · exact leDig_byte k _ y h
theorem leNum_bd : ∀ (l : List Int), (∀ x ∈ l, 0 ≤ x ∧ x ≤ 255) → 0 ≤ leNum l ∧ leNum l < 256 ^ l.length
  | [], _ => by simp [leNum]
  | a :: l, h => by
    have ih := leNum_bd l (fun x hx => h x (List.mem_cons_of_mem _ hx))
    have ha := h a (List.mem_cons_self ..)
    simp only [leNum, List.length_cons, Int.pow_succ]
    omega
theorem leNum_snoc : ∀ (l : List Int) (x : Int), leNum (l ++ [x]) = leNum l + 256 ^ l.length * x
  | [], x => by simp [leNum]
  | a :: l, x => by
    simp only [List.cons_append, leNum, leNum_snoc l x, List.length_cons, Int.pow_succ, Int.mul_add]
    rw [Int.mul_comm (256 ^ l.length) 256, Int.mul_assoc]
    omega
theorem leNum_dig : ∀ (k : Nat) (x : Int), 0 ≤ x → x < 256 ^ k → leNum (leDig k x) = x
  | 0, x, h0, h1 => by simp at h1; simp [leDig, leNum]; omega
  | k + 1, x, h0, h1 => by
    simp only [leDig, leNum]
    rw [Int.pow_succ] at h1
    rw [leNum_dig k (x / 256) (by omega) (by omega)]
    omega
theorem leDig_getD : ∀ (k : Nat) (x : Int) (i : Nat), i < k → (leDig k x).getD i 0 = x / 256 ^ i % 256
  | 0, _, _, h => by omega
  | k + 1, x, 0, _ => by simp [leDig]
  | k + 1, x, i + 1, h => by
    have ih := leDig_getD k (x / 256) i (by omega)
    simp only [leDig, List.getD_cons_succ]
    rw [ih, Int.pow_succ, Int.mul_comm, Int.ediv_ediv_of_nonneg (by omega)]
theorem pow256_le (k : Nat) (hk : k < 8) : (256 : Int) ^ k ≤ 72057594037927936 := by
  rcases (by omega : k = 0 ∨ k = 1 ∨ k = 2 ∨ k = 3 ∨ k = 4 ∨ k = 5 ∨ k = 6 ∨ k = 7) with rfl | rfl | rfl | rfl | rfl | rfl | rfl | rfl <;> decide
theorem pow256_pos (k : Nat) : (0 : Int) < 256 ^ k := Int.pow_pos (by omega)
theorem or_shift (k : Nat) (X v : Int) (hk : k < 8) (x0 : 0 ≤ X) (x1 : X < 256 ^ k) (v0 : 0 ≤ v) (v1 : v ≤ 255) :
    bits .or .u64 X (IntKind.u64.wrap (v * 2 ^ (8 * k))) = X + 256 ^ k * v := by
  have e : (2 : Int) ^ (8 * k) = 256 ^ k := by rw [Int.pow_mul]; rfl
  have hp := pow256_le k hk
  have hp0 := pow256_pos k
  have hm : v * 256 ^ k ≤ 255 * 256 ^ k := Int.mul_le_mul_of_nonneg_right v1 (by omega)
  have hm0 : 0 ≤ v * 256 ^ k := Int.mul_nonneg v0 (by omega)
  rw [e, u64_wrap_id _ hm0 (by omega), bits_join_low .u64 64 (by decide) (fun n h0 h1 => wraps_u64 n h0 h1) (8 * k) X (v * 256 ^ k) x0 (by rw [e]; exact x1) (by have : (2 : Int) ^ 64 = 18446744073709551616 := rfl; omega) hm0 (by rw [e]; exact Int.mul_emod_left _ _) (by have : (2 : Int) ^ 64 = 18446744073709551616 := rfl; omega)]
  rw [Int.mul_comm]
end Go.Proofs.YtdkpbobglogmoaaGreat
namespace Go.Proofs.YtdkpbobglogmoaaGreat
open Go.RowKit Go.WideShapes
theorem frame_get (b p L c : Nat) (ys : List Int) (w : World) (hL : L ≤ 8) (hl : ys.length = L) (hy : ∀ x ∈ ys, 0 ≤ x ∧ x ≤ 255) (hc : ∀ i, i < L → w.cell? ⟨b, p + i, none⟩ = some (.int .u8 (ys.getD i 0))) :
    Calls Tryz.prog 66 #[.slice (some ⟨b, p, none⟩) L c] w fun e w' => e = .returned (.int .u64 (leNum ys)) ∧ w = w' := by
  have Hc := Lib.hid hc
  have Hl := Lib.hid hl
  have Hy := Lib.hid hy
  clear hc hl hy
  go_enter Tryz.func66, Tryz.ntmps66
  go_wp2
  go_loop [2, 7] (fun x i => ∃ k : Nat, k ≤ L ∧ i = .int .i64 k ∧ x = .int .u64 (leNum (ys.take k))) (fun _ i => L - (intOf i).toNat)
  case atStart => exact ⟨0, by omega, rfl, rfl⟩
  case round =>
    obtain ⟨k, hk, rfl, rfl⟩ := hrel
    by_cases hlt : k < L
    · have hlt8 : k < 8 := by omega
      have c := Hc.out k hlt
      have hbd := leNum_bd (ys.take k) (fun x hx => Hy.out x (List.mem_of_mem_take hx))
      have hsn : leNum (ys.take (k + 1)) = leNum (ys.take k) + 256 ^ k * ys.getD k 0 := by
        have hkl : k < ys.length := by rw [Hl.out]; exact hlt
        have e : ys.take (k + 1) = ys.take k ++ [ys.getD k 0] := by
          rw [List.take_succ_eq_append_getElem hkl]; simp [List.getD, List.getElem?_eq_getElem hkl]
        rw [e, leNum_snoc]; simp [Nat.min_eq_left (Nat.le_of_lt hkl)]
      have hv : 0 ≤ ys.getD k 0 ∧ ys.getD k 0 ≤ 255 := by
        have hkl : k < ys.length := by rw [Hl.out]; exact hlt
        have e : ys.getD k 0 = ys[k] := by simp [List.getD, List.getElem?_eq_getElem hkl]
        rw [e]; exact Hy.out _ (List.getElem_mem _)
      have hkl : (ys.take k).length = k := by simp [Hl.out]; omega
      rw [hkl] at hbd
      have Hsn := Lib.hid hsn
      clear hsn hkl
      generalize ys.getD k 0 = v at *
      generalize leNum (ys.take k) = X at *
      obtain ⟨v0, v1⟩ := hv
      obtain ⟨x0, x1⟩ := hbd
      have s1 : IntKind.i64.wrap (8 * (k : Int)) = 8 * (k : Int) := IntWalk.i64_in _ (by omega)
      go_wp2
      go_round
      case rel => exact ⟨k + 1, by omega, by go_num, by rw [or_shift k X v hlt8 x0 x1 v0 v1, Hsn.out]⟩
      case measure => simp [intOf]; omega
    · obtain rfl : k = L := by omega
      have e : ys.take k = ys := by rw [← Hl.out]; exact List.take_length
      rw [e]
      generalize hX : leNum ys = X
      have HX := Lib.hid hX
      clear hX e
      go_wp2
      go_ret
      exact ⟨by rw [HX.out]; rfl, rfl⟩
theorem bytes_count (b o n c b2 o2 d : Nat) (xs : List Int) (cv : Int) (w : World) (hx : xs.length = n) (hc : ∀ i, i < n → w.cell? ⟨b, o + i, none⟩ = some (.int .u8 (xs.getD i 0))) (hc2 : w.cell? ⟨b2, o2, none⟩ = some (.int .u8 cv)) :
    Calls Tryz.prog 65 #[.slice (some ⟨b, o, none⟩) n c, .slice (some ⟨b2, o2, none⟩) 1 d] w fun e w' => e = .returned (.int .i64 (Lib.countByte (Lib.bytesOf xs) cv.toNat.toUInt8)) ∧ w' = w := by
  go_enter Tryz.func65, Tryz.ntmps65
  go_wp2
  rw [run_callFunc_extern Tryz.func82 (by kernel_rfl) (by kernel_rfl) (by kernel_rfl) (e := Extern.BytealgCount.count) (by kernel_rfl), Lib.run_countSlice w b o n c xs hx hc cv]
  simp only [Result.andThen]
  rw [Oper.upon_value]
  go_wp2
  go_ret
  exact ⟨rfl, rfl⟩
theorem bytes_equal (v1 v2 : Value) (xs ys : List Int) (w : World)
    (h1 : (convert 33 9 v1).run Tryz.prog w = .ok (.string (strOfNums xs)) w) (h2 : (convert 33 9 v2).run Tryz.prog w = .ok (.string (strOfNums ys)) w) :
    Calls Tryz.prog 67 #[v1, v2] w fun e w' => e = .returned (.bool (Lib.bytesOf xs == Lib.bytesOf ys)) ∧ w' = w := by
  rw [← Lib.strOfNums_toList, ← Lib.strOfNums_toList]
  go_enter Tryz.func67, Tryz.ntmps67
  go_wp2
  go_ret
  exact ⟨rfl, rfl⟩
theorem zeroCells_one (v : Value) (n : Nat) : Builtin.zeroCells #[v] n = (List.replicate n v).toArray := by
  apply Array.ext'
  apply List.ext_getElem?
  intro i
  simp [Builtin.zeroCells, List.getElem?_replicate]
  by_cases h : i < n
  · simp [h, Nat.mod_one]
  · simp [h]
theorem wpList_append_bare {P : Program} {w : World} {ops : Array Oper} {rest : List Oper} {o : Oper} {a : Act} {Q : Exit → Act → World → Prop} (hgd : o.guard = none) (s x : Operand) (t : TypeId)
    (ho : o.op = .call { callee := .builtin .append, args := #[s, x], argTypes := #[t, t] })
    (e : TypeId) (i : TypeInfo) (z : Value) (bytes : Nat) (ht : P.underlying t = some (.slice e)) (hi : P.info? e = some i) (hz : i.zero = some z) (hsize : i.size = 1) (hby : i.bytes = bytes) (hzs : z.cells = #[z])
    (g0 : Nat) (hs : a.eval s = .slice (some ⟨g0, 0, none⟩) 0 0) (hg0 : w.heap[g0]? = some (.cells #[] e (0, 0)))
    (ad : Addr) (m c : Nat) (news : List Value) (hx : a.eval x = .slice (some ad) m c) (hl : news.length = m) (hnews : ∀ j u, news[j]? = some u → w.cell? (ad.add j) = some u) (h1 : ∀ u ∈ news, u.oneCell' = true)
    (hm63 : m ≤ maxLen) (hbytes : m * bytes ≤ 140737488355328)
    (h : ∀ g cap k w', (g = g0 ∨ g = w.heap.size) → cap ≤ maxLen → m ≤ cap → m + k = cap → w'.heap[g]? = some (.cells (news ++ List.replicate k z).toArray e (0, 0)) → w.grownBy w' (some g0) → wpList P ops Q rest (a.put o.dst (.slice (some ⟨g, 0, none⟩) m cap)) w') : wpList P ops Q (o :: rest) a w := by
  refine wpList_plain hgd fun K hK => ?_
  subst hby
  by_cases hm : m = 0
  · subst hm
    obtain rfl := List.eq_nil_of_length_eq_zero hl
    have hr := run_append_room (P := P) w t o.type e i ht hi g0 0 0 #[] hg0 ad 0 c [] (by simp) (by simp) (by simp) (by omega) (by simp)
    unfold Oper.wp execOp
    simp only [ho, resolve, invoke, builtin, Sem.run_bind, Sem.run_pure, Result.andThen_ok, List.map_toArray, List.map_cons, List.map_nil, hs, hx, hr]
    refine hK _ _ (h g0 0 0 _ (.inl rfl) (Nat.zero_le _) (Nat.le_refl _) rfl ((setRow_heap w g0 #[] _ e _ hg0).trans (by simp)) ⟨rfl, rfl, rfl, by simp, fun k _ hk => setRow_other w g0 k _ (fun e => hk (by rw [e]))⟩)
  · have hr := run_append_grow (P := P) w t o.type e i z ht hi hz ⟨g0, 0, none⟩ 0 0 [] (by simp) (by simp) ad m c news (by rw [hsize, Nat.mul_one]; exact hl) hnews (by omega) (by simp only [maxLen] at hm63; omega) (growslice_fits (by omega) (by simpa using hbytes))
    have hge := grownCap_ge w m 0 e
    have hcm := grownCap_le_maxLen w m 0 e hm63
    simp only [Nat.zero_add, Array.empty_append] at hr
    unfold Oper.wp execOp
    simp only [ho, resolve, invoke, builtin, Sem.run_bind, Sem.run_pure, Result.andThen_ok, List.map_toArray, List.map_cons, List.map_nil, hs, hx, hr]
    refine hK _ _ (h w.heap.size _ (grownCap w m 0 e - m) _ (.inr rfl) hcm hge (by omega) ?_ ⟨rfl, rfl, rfl, by simp, fun k hk _ => Below.heap_alloc w.drew _ k hk⟩)
    have := heap_alloc_new w.drew (.cells (news.toArray ++ Builtin.zeroCells z.cells (grownCap w m 0 e - m)) e)
    rw [hzs, zeroCells_one] at this ⊢
    exact this.trans (by simp)
theorem fr_clone (a : Addr) (n c : Nat) (xs : List Int) (w : World) (hx : xs.length = n) (hbig : n ≤ 140737488355328) (hc : ∀ i, i < n → w.cell? (a.add i) = some (.int .u8 (xs.getD i 0))) :
    Calls Tryz.prog 34 #[.slice (some a) n c] w fun e w' => ∃ g cap k, e = .returned (.slice (some ⟨g, 0, none⟩) n cap) ∧ w.heap.size ≤ g ∧ cap ≤ maxLen ∧ n + k = cap ∧ w'.heap[g]? = some (.cells ((xs ++ List.replicate k 0).map (Value.int .u8)).toArray 5 (0, 0)) ∧ Below w.heap.size w w' := by
  obtain ⟨i0, hi, hz0, hz1, hz2⟩ := info_parts (P := Tryz.prog) (e := 5) (z := .int .u8 0) (size := 1) (bytes := 1) (by kernel_rfl)
  have q22 : ∀ (w : World) (a : Option Addr) (n c n' c' : Nat), (binOp .eql 33 (.slice a n c) (.slice none n' c')).run Tryz.prog w = .ok (.bool a.isNone) w := fun w a n c n' c' => Lib.run_eql_slice_nil w _ _ a n c n' c' Tryz.underlying33
  have A := Lib.hid hc
  clear hc
  go_enter Tryz.func34, Tryz.ntmps34
  go_wp2_with (at_builtin; refine wpList_append_bare rfl _ _ 33 rfl 5 i0 (.int .u8 0) 1 Tryz.underlying33 hi hz0 hz1 hz2 rfl w.heap.size rfl (heap_alloc_new w _) a n c (xs.map (Value.int .u8)) rfl ?qc1 ?qc2 ?qc3 ?qc4 ?qc5 ?_)
  case qc1 => simp; omega
  case qc2 =>
    intro j u hj
    have hjn : j < n := by
      have := (List.getElem?_eq_some_iff.1 hj).1
      simp at this
      omega
    refine Lib.cell?_alloc_some _ ?_
    rw [A.out j hjn]
    have e : (xs.map (Value.int .u8))[j]? = some (Value.int .u8 (xs.getD j 0)) := by simp [List.getD, List.getElem?_eq_getElem (show j < xs.length by omega)]
    rw [e] at hj
    exact hj
  case qc3 => intro u hu; obtain ⟨x, _, rfl⟩ := List.mem_map.1 hu; rfl
  case qc4 => unfold maxLen; omega
  case qc5 => omega
  intro g cap k w1 hg hcap hnc hk hheap hgrow
  go_wp2
  go_ret
  refine ⟨g, cap, k, rfl, ?_, hcap, hk, by simpa using hheap, ?_⟩
  · rcases hg with rfl | rfl
    · exact Nat.le_refl _
    · simp
  · exact ((Below.refl _ w).alloc (Nat.le_refl _) _).grown hgrow (by simp) (by intro k hk; cases hk; exact Nat.le_refl _)
end Go.Proofs.YtdkpbobglogmoaaGreat
namespace Go.Proofs.YtdkpbobglogmoaaGreat
open Go.RowKit
theorem Keep.setRow {S : Nat → Prop} {a w : World} (h : Keep S a w) {g : Nat} (hg : S g ∨ a.heap.size ≤ g) (cs : Array Value) : Keep S a (w.setRow g cs) :=
  ⟨h.os, h.tape, h.output, by have := h.size; simp; omega, fun k hk hs => by
    rw [setRow_other _ _ _ _ (fun e => by subst e; exact hg.elim hs (by omega))]; exact h.block k hk hs⟩
theorem wpList_copy_keep {P : Program} {w : World} {ops : Array Oper} {rest : List Oper} {o : Oper} {a : Act} {Q : Exit → Act → World → Prop} (hgd : o.guard = none) (d s : Operand) (dT sT : TypeId)
    (ho : o.op = .call { callee := .builtin .copy, args := #[d, s], argTypes := #[dT, sT] }) (elem : TypeId) (hu : P.underlying dT = some (.slice elem)) (hsz : (P.info? elem).map (·.size) = some 1)
    (dp sp : Option Addr) (dLen dCap sLen sCap : Nat) (hd : a.eval d = .slice dp dLen dCap) (hs : a.eval s = .slice sp sLen sCap)
    (g off : Nat) (cur : List Value) (t : TypeId) (hg : Blk w g cur.toArray t) (cs : List Value) (hn : cs.length = Nat.min sLen dLen)
    (hpos : 0 < cs.length → dp = some ⟨g, off, none⟩ ∧ ∃ ad, sp = some ad ∧ ∀ j v, cs[j]? = some v → w.cell? (ad.add j) = some v)
    (hfit : off + cs.length ≤ cur.length) (h1 : ∀ v ∈ cs, v.oneCell' = true)
    (h : ∀ w', Blk w' g (splice cur off cs).toArray t → Keep (· = g) w w' → wpList P ops Q rest (a.put o.dst (goInt cs.length)) w') :
    wpList P ops Q (o :: rest) a w := by
  by_cases h0 : cs.length = 0
  · obtain rfl : cs = [] := List.eq_nil_of_length_eq_zero h0
    refine wpList_copy_nothing hgd d s dT sT ho elem hu hsz dp sp dLen dCap sLen sCap hd hs (by simpa using hn.symm) ?_
    exact h w (by simpa [splice] using hg) (Keep.refl _ _)
  · obtain ⟨rfl, ad, rfl, hsrc⟩ := hpos (by omega)
    refine wpList_copy_own hgd d s dT sT ho elem hu hsz g off dLen dCap ad sLen sCap hd hs cur.toArray t hg cs hn hsrc (by simpa using hfit) h1 ?_
    exact h _ (show _ = _ by simpa [splice] using setRow_heap w g _ _ t _ hg) (Keep.setRow (S := (· = g)) (Keep.refl _ _) (.inl rfl) _)
theorem Blk.grown {w w' : World} {b : Nat} {c : Array Value} {e : TypeId} (h : Blk w b c e) {row : Option Nat} (hg : w.grownBy w' row) (hr : ∀ k, row = some k → k ≠ b) : Blk w' b c e := by
  unfold Blk
  rw [hg.block b h.lt (fun e => hr b e.symm rfl)]; exact h
theorem map_splice {α β : Type} (f : α → β) (L : List α) (off : Nat) (cs : List α) : (splice L off cs).map f = splice (L.map f) off (cs.map f) := by
  simp [splice]
theorem mem_splice {α : Type} {L cs : List α} {off : Nat} {x : α} (h : x ∈ splice L off cs) : x ∈ L ∨ x ∈ cs := by
  unfold splice at h
  rcases List.mem_append.1 h with h | h
  · exact .inl (List.mem_of_mem_take h)
  · rcases List.mem_append.1 h with h | h
    · exact .inr h
    · exact .inl (List.mem_of_mem_drop h)
theorem wp_still_tail {P : Program} {id : Nat} {Q : Exit → Act → World → Prop} {a : Act} {w : World} {l : List Oper} (n : Nat) (hm : P.follows .mixedOrders = true) (hB : Region.lexTailB .any l.toArray n = true)
    (h : ∀ W, W = w.drew → wpStill P l.toArray W (fun a' => wpList P l.toArray Q (l.drop n) a' W) (l.take n) a) : (Code.region id l.toArray true).wp P Q a w :=
  wp_region_still_tail n hm hB (h _ rfl)
end Go.Proofs.YtdkpbobglogmoaaGreat
namespace Go.Proofs.YtdkpbobglogmoaaGreat
open Go.RowKit
theorem splice_set (bs : List Int) (p : Nat) (ds : List Int) (k : Nat) (hk : k < ds.length) (hp : p + k < bs.length) :
    (splice bs p (ds.take k)).set (p + k) (ds.getD k 0) = splice bs p (ds.take (k + 1)) := by
  apply List.ext_getElem?
  intro i
  have hl : (splice bs p (ds.take k)).length = bs.length := length_splice _ _ _ (by simp; omega)
  unfold splice at hl ⊢
  simp only [List.length_take, Nat.min_eq_left (Nat.le_of_lt hk), Nat.min_eq_left (show k + 1 ≤ ds.length from hk)] at hl ⊢
  rw [List.getElem?_set]
  simp only [hl]
  simp only [List.getElem?_append, List.length_take, List.getElem?_take, List.getElem?_drop, Nat.min_eq_left (Nat.le_of_lt hk), Nat.min_eq_left (show k + 1 ≤ ds.length from hk), Nat.min_eq_left (show p ≤ bs.length by omega), List.getD]
  by_cases h1 : p + k = i
  · subst h1
    simp [hp, hk]
    intro h; omega
  · rw [if_neg h1]
    by_cases h2 : i < p
    · simp [h2]
    · by_cases h3 : i - p < k
      · simp [h2, h3, show i - p < k + 1 by omega]
      · simp [h2, h3, show ¬ i - p < k + 1 by omega]
        congr 1; omega
end Go.Proofs.YtdkpbobglogmoaaGreat
namespace Go.Proofs.YtdkpbobglogmoaaGreat
open Go.RowKit Go.WideShapes
theorem frame_put (p L g c : Nat) (bs : List Int) (x : Int) (w : World) (hL : L ≤ 8) (hp : p + L ≤ bs.length) (hb : Blk w g (bs.map (Value.int .u8)).toArray 5) :
    Calls Tryz.prog 23 #[.slice (some ⟨g, p, none⟩) L c, .int .u64 x] w fun e w' => e = .returned (.tuple #[]) ∧ Blk w' g ((splice bs p (leDig L x)).map (Value.int .u8)).toArray 5 ∧ Keep (· = g) w w' := by
  have hst : Blk w g ((splice bs p ((leDig L x).take 0)).map (Value.int .u8)).toArray 5 := by simpa [splice] using hb
  have Hst := Lib.hid hst
  clear hst hb
  go_enter Tryz.func23, Tryz.ntmps23
  go_wp2
  go_loopw [7] (fun i wr => ∃ k : Nat, k ≤ L ∧ i = .int .i64 k ∧ Blk wr g ((splice bs p ((leDig L x).take k)).map (Value.int .u8)).toArray 5 ∧ Keep (· = g) w wr) (fun i _ => L - (intOf i).toNat)
  case atStart => exact ⟨0, by omega, rfl, Hst.out, Keep.refl _ _⟩
  case round =>
    obtain ⟨k, hk, rfl, hb, hkp⟩ := hrel
    by_cases hlt : k < L
    · have hlen : (splice bs p ((leDig L x).take k)).length = bs.length := length_splice _ _ _ (by simp [leDig_length]; omega)
      have hcg : ∃ v0, wr.cell? ⟨g, p + k, none⟩ = some v0 := by
        rw [hb.cell]
        exact ⟨_, Array.getElem?_eq_getElem (by simp [hlen]; omega)⟩
      obtain ⟨v0, hcg⟩ := hcg
      have hfr : wr.frozen? ⟨g, p + k, none⟩ = false := hb.free _
      have Hb' := Lib.hid hb
      have Hk' := Lib.hid hkp
      clear hb hkp hlen
      have s1 : IntKind.i64.wrap (8 * (k : Int)) = 8 * (k : Int) := IntWalk.i64_in _ (by omega)
      go_wp2
      go_roundw
      case rel =>
        refine ⟨k + 1, by omega, by go_num, ?_, Hk'.out.setCell (by left; rfl) _⟩
        have e : (leDig L x).getD k 0 = x / 2 ^ (8 * k) % 256 := by
          rw [leDig_getD L x k hlt, Int.pow_mul]; rfl
        refine (Hb'.out.set (p + k) _).of ?_
        rw [List.setIfInBounds_toArray, ← List.map_set, ← e, splice_set bs p (leDig L x) k (by rw [leDig_length]; exact hlt) (by omega)]
      case measure => simp [intOf]; omega
    · obtain rfl : k = L := by omega
      have e : (leDig k x).take k = leDig k x := List.take_of_length_le (by rw [leDig_length]; exact Nat.le_refl _)
      rw [e] at hb
      clear e
      go_wp2
      go_end0
      exact ⟨rfl, hb, hkp⟩
end Go.Proofs.YtdkpbobglogmoaaGreat
namespace Go.Proofs.YtdkpbobglogmoaaGreat
open Go.ChangeShapes Go.WideShapes Go.ChangeAt Go.RowKit
def IsRow (k : IntKind) (sz : Nat) (w : World) (a : Option Addr) (len cap : Nat) (zs : List Int) : Prop :=
  (a = none ∧ len = 0 ∧ cap = 0 ∧ zs = []) ∨
  ∃ x, a = some x ∧ len ≤ cap ∧ cap * sz ≤ 140737488351232 ∧ cap ≤ maxLen ∧ zs.length = cap ∧ (∀ i, i < zs.length → w.cell? (x.add i) = some (.int k (zs.getD i 0))) ∧ ∀ n ∈ zs, (Lit.int k n).wf = true
theorem cell_lt {w : World} {a : Addr} {v : Value} (h : w.cell? a = some v) : a.block < w.heap.size := by
  unfold World.cell? at h
  by_cases q : a.block < w.heap.size
  · exact q
  · rw [Array.getElem?_eq_none (by omega)] at h; cases h
theorem IsRow.at {k : IntKind} {sz : Nat} {w : World} {a : Option Addr} {len cap : Nat} {zs : List Int} (h : IsRow k sz w a len cap zs) (hl : 0 < len) :
    ∃ b off, a = some ⟨b, off, none⟩ ∧ len ≤ cap ∧ cap * sz ≤ 140737488351232 ∧ zs.length = cap ∧ b < w.heap.size ∧
      (∀ w', Below w.heap.size w w' → ∀ i, i < cap → w'.cell? ⟨b, off + i, none⟩ = some (.int k (zs.getD i 0))) ∧ ∀ i, i < cap → (Lit.int k (zs.getD i 0)).wf = true := by
  rcases h with ⟨_, h, _⟩ | ⟨⟨b, off, spot⟩, rfl, h1, h2, h3, h4, h5, h6⟩
  · omega
  · have c0 := h5 0 (by omega)
    have hspot : spot = none := by simpa [Addr.add] using World.cell?_spot c0
    subst hspot
    have hb : b < w.heap.size := cell_lt c0
    refine ⟨b, off, rfl, h1, h2, h4, hb, fun w' hw i hi => ?_, fun i hi => ?_⟩
    · rw [hw.cell (p := ⟨b, off + i, none⟩) hb]
      rw [← add_plain]
      exact h5 i (by omega)
    · have e : zs.getD i 0 = zs[i]'(by omega) := by simp [List.getD, List.getElem?_eq_getElem (show i < zs.length by omega)]
      rw [e]; exact h6 _ (List.getElem_mem _)
end Go.Proofs.YtdkpbobglogmoaaGreat
namespace Go.Proofs.YtdkpbobglogmoaaGreat
open Go.RowKit
def crcBit (x : Int) : Int := bits .xor .u32 (x / 2) (bits .and .u32 3988292384 ((-(bits .and .u32 x 1)) % 4294967296))
def crcBits (x : Int) : Nat → Int
  | 0 => x
  | k + 1 => crcBit (crcBits x k)
def crcByte (x b : Int) : Int := crcBits (bits .xor .u32 x b) 8
def crcOf (l : List Int) : Int := bits .xor .u32 (IntKind.max .u32) (l.foldl crcByte 4294967295)
theorem code_crc (bb off n c : Nat) (ys : List Int) (w : World) (hl : ys.length = n) (hb : ∀ x ∈ ys, 0 ≤ x ∧ x ≤ 255) (hn : n ≤ 140737488351232) (hc : ∀ i, i < n → w.cell? ⟨bb, off + i, none⟩ = some (.int .u8 (ys.getD i 0))) :
    Calls Tryz.prog 24 #[.slice (some ⟨bb, off, none⟩) n c] w fun e w' => e = .returned (.int .u32 (crcOf ys)) ∧ w = w' := by
  have Hb := Lib.hid hb
  have Hc := Lib.hid hc
  have Hl := Lib.hid hl
  clear hb hc hl
  go_enter Tryz.func24, Tryz.ntmps24
  go_wp2
  go_loop [3, 8] (fun x i => ∃ k : Nat, k ≤ n ∧ i = .int .i64 k ∧ x = .int .u32 ((ys.take k).foldl crcByte 4294967295)) (fun _ i => n - (intOf i).toNat)
  case atStart => exact ⟨0, by omega, rfl, rfl⟩
  case round =>
    obtain ⟨k, hk, rfl, rfl⟩ := hrel
    by_cases hlt : k < n
    · have hck := Hc.out k hlt
      obtain ⟨X, hX⟩ : ∃ X, X = (ys.take k).foldl crcByte 4294967295 := ⟨_, rfl⟩
      rw [← hX]
      have HX := Lib.hid hX
      clear hX
      obtain ⟨y, hy⟩ : ∃ y, y = ys.getD k 0 := ⟨_, rfl⟩
      rw [← hy] at hck
      have HY := Lib.hid hy
      have hyb : 0 ≤ y ∧ y ≤ 255 := by
        have hkl : k < ys.length := by rw [Hl.out]; exact hlt
        have : ys.getD k 0 ∈ ys := by simp [List.getD, List.getElem?_eq_getElem hkl]
        rw [hy]; exact Hb.out _ this
      obtain ⟨hy0, hy1⟩ := hyb
      clear hy
      go_wp2
      go_loop [3, 16] (fun x i => ∃ j : Nat, j ≤ 8 ∧ i = .int .i64 j ∧ x = .int .u32 (crcBits (bits .xor .u32 X y) j)) (fun _ i => 8 - (intOf i).toNat)
      case atStart => exact ⟨0, by omega, rfl, rfl⟩
      case round =>
        obtain ⟨j, hj, rfl, rfl⟩ := hrel
        obtain ⟨V, hV⟩ : ∃ V, V = crcBits (bits .xor .u32 X y) j := ⟨_, rfl⟩
        rw [← hV]
        have HV := Lib.hid hV
        clear hV
        by_cases hlt8 : j < 8
        · go_wp2
          go_round
          case rel => exact ⟨j + 1, by omega, by go_num, by rw [HV.out]; rfl⟩
          case measure => simp [intOf]; omega
        · obtain rfl : j = 8 := by omega
          go_wp2
          go_round
          case rel =>
            have hkl : k < ys.length := by rw [Hl.out]; exact hlt
            have e : ys.take (k + 1) = ys.take k ++ [ys.getD k 0] := by
              rw [List.take_succ_eq_append_getElem hkl]; simp [List.getD, List.getElem?_eq_getElem hkl]
            refine ⟨k + 1, by omega, by go_num, ?_⟩
            rw [HV.out, e, List.foldl_append, ← HX.out, ← HY.out]
            rfl
          case measure => simp [intOf]; omega
    · obtain rfl : k = n := by omega
      have hall : ys.take k = ys := List.take_of_length_le (by rw [Hl.out]; exact Nat.le_refl _)
      rw [hall]
      obtain ⟨X, hX⟩ : ∃ X, X = ys.foldl crcByte 4294967295 := ⟨_, rfl⟩
      rw [← hX]
      have HX := Lib.hid hX
      clear hX hall
      go_wp2
      go_ret
      refine ⟨?_, rfl⟩
      unfold crcOf
      rw [← HX.out]
      rfl
end Go.Proofs.YtdkpbobglogmoaaGreat
namespace Go.Proofs.YtdkpbobglogmoaaGreat
open Go.RowKit
def falses0 (L : Array Bool) : Nat := (L.toList.filter (· == false)).length
theorem falses0_set (L : Array Bool) (i : Nat) (h : L.getD i true = false) : falses0 (L.setIfInBounds i true) + 1 = falses0 L := by
  have hi : i < L.size := by
    rcases Nat.lt_or_ge i L.size with q | q
    · exact q
    · simp [Array.getElem?_eq_none q] at h
  have hLi : L[i] = false := by simpa [hi] using h
  obtain ⟨l⟩ := L
  simp at hi hLi
  simp only [falses0, List.setIfInBounds_toArray]
  clear h
  induction l generalizing i with
  | nil => simp at hi
  | cons x xs ih =>
    cases i with
    | zero => simp at hLi; subst hLi; simp
    | succ j =>
      have := ih j (by simpa using hi) (by simpa using hLi)
      simp only [List.set_cons_succ, List.filter_cons]
      cases x <;> simp_all
theorem wpAny_states {P : Program} {md : Region.Mode} {ops : Array Oper} {Q : Exit → Act → World → Prop} (A : Array Bool → Act) (Wd : Array Bool → World) (G : Array Bool → Prop)
    (hstep : ∀ L, G L → ∀ i ∈ Region.ready md ops L, G (L.setIfInBounds i true) ∧ ∀ K : Act → World → Prop, K (A (L.setIfInBounds i true)) (Wd (L.setIfInBounds i true)) → wpOp P ops Q i K (A L) (Wd L))
    (hend : ∀ L, G L → Region.ready md ops L = [] → Q .normal (A L) (Wd L)) :
    ∀ (fuel : Nat) (L : Array Bool), G L → falses0 L ≤ fuel → wpAny P md ops Q fuel L (A L) (Wd L) := by
  intro fuel
  induction fuel with
  | zero =>
    intro L hG hf
    have hr : Region.ready md ops L = [] := by
      cases h : Region.ready md ops L with
      | nil => rfl
      | cons i r =>
        have hm : i ∈ Region.ready md ops L := by rw [h]; simp
        have := falses0_set L i (mem_ready.1 hm).1
        omega
    exact ⟨hr, hend L hG hr⟩
  | succ fuel ih =>
    intro L hG hf
    refine ⟨fun hr => hend L hG hr, fun i hi => ?_⟩
    have hs := falses0_set L i (mem_ready.1 hi).1
    obtain ⟨hG', h⟩ := hstep L hG i hi
    exact h _ (ih _ hG' (by omega))
theorem wp_region_states {P : Program} {ops : Array Oper} {Q : Exit → Act → World → Prop} {id : Nat} {a : Act} {w : World} (hm : P.follows .mixedOrders = true)
    (A : Array Bool → Act) (Wd : Array Bool → World) (G : Array Bool → Prop) (L0 : Array Bool) (hL : L0 = Array.replicate ops.size false) (ha : A L0 = a) (hw : Wd L0 = w.drew) (hG : G L0)
    (hstep : ∀ L, G L → ∀ i ∈ Region.ready .any ops L, G (L.setIfInBounds i true) ∧ ∀ K : Act → World → Prop, K (A (L.setIfInBounds i true)) (Wd (L.setIfInBounds i true)) → wpOp P ops Q i K (A L) (Wd L))
    (hend : ∀ L, G L → Region.ready .any ops L = [] → Q .normal (A L) (Wd L)) : (Code.region id ops true).wp P Q a w := by
  refine wp_region_any hm ?_
  rw [← hL, ← ha]
  have e : ({ w with drawn := w.drawn + 1 } : World) = Wd L0 := hw.symm
  rw [e]
  refine wpAny_states A Wd G hstep hend _ L0 hG ?_
  rw [hL]
  have : ∀ m, falses0 (Array.replicate m false) ≤ m := fun m => by
    unfold falses0
    exact Nat.le_trans (List.length_filter_le _ _) (by simp)
  exact this _
theorem unready0 {md : Region.Mode} {ops : Array Oper} {L : Array Bool} (hr : Region.ready md ops L = []) (i : Nat) (o : Oper) (ho : ops[i]? = some o) (hd : ∀ e ∈ o.after, Region.binds md e = true → L.getD e.on false = true) : L.getD i true = true := by
  cases h : L.getD i true with
  | true => rfl
  | false => have := mem_ready.2 ⟨h, o, ho, hd⟩; rw [hr] at this; cases this
end Go.Proofs.YtdkpbobglogmoaaGreat
namespace Go.Proofs.YtdkpbobglogmoaaGreat
open Go.RowKit
@[reducible] def frame6 (fb pb n q : Nat) (kind : Int) (t0 t1 t2 t3 t4 t5 t6 t7 t8 t9 t10 t11 t12 t13 t14 t15 t16 t17 t18 t19 t20 t21 t22 t23 t24 t25 t26 t27 t28 t29 t30 t31 t32 t33 t34 t35 t36 t37 t38 t39 t40 t41 t42 t43 t44 t45 t46 t47 t48 t49 t50 t51 t52 t53 t54 t55 t56 t57 t58 t59 t60 t61 t62 t63 t64 t65 t66 t67 t68 t69 t70 t71 t72 t73 t74 t75 t76 t77 t78 t79 t80 t81 t82 t83 t84 t85 t86 t87 t88 t89 t90 t91 t92 t93 t94 t95 : Value) (L : Array Bool) : Act :=
  ⟨#[t0, t1, t2, t3, t4, t5, t6, t7, t8, t9, t10, t11, t12, t13, t14, t15, t16, t17, t18, t19, t20, t21, t22, t23, t24, t25, t26, t27, t28, t29, t30, t31, t32, t33, t34, t35, t36, t37, t38, t39, t40, t41, t42, t43, t44, t45, t46, t47, t48, t49, t50, t51, t52, t53, (if L.getD 0 false = true then (.slice (some ⟨pb, 0, none⟩) n n) else t54), (if L.getD 1 false = true then (.slice (some ⟨pb, 0, none⟩) n n) else t55), (if L.getD 2 false = true then (.slice (some ⟨pb, 0, none⟩) n n) else t56), (if L.getD 3 false = true then (.int .i64 (n : Int)) else t57), (if L.getD 4 false = true then (.int .i64 ((n : Int) - 1)) else t58), (if L.getD 5 false = true then (.pointer (some ⟨fb, 0, none⟩)) else t59), (if L.getD 6 false = true then (.int .i64 kind) else t60), (if L.getD 7 false = true then (.int .u8 (kind % 256)) else t61), (if L.getD 8 false = true then (.pointer (some ⟨pb, 0, none⟩)) else t62), (if L.getD 10 false = true then (.pointer (some ⟨pb, 1, none⟩)) else t63), (if L.getD 12 false = true then (.pointer (some ⟨pb, q, none⟩)) else t64), t65, t66, t67, t68, t69, t70, t71, t72, t73, t74, t75, t76, t77, t78, t79, t80, t81, t82, t83, t84, t85, t86, t87, t88, t89, t90, t91, t92, t93, t94, t95], []⟩
@[reducible] def world6 (pb q : Nat) (kind : Int) (V : World) (L : Array Bool) : World :=
  let a := if L.getD 9 false = true then V.setCell ⟨pb, 0, none⟩ (.int .u8 165) else V
  let b := if L.getD 11 false = true then a.setCell ⟨pb, 1, none⟩ (.int .u8 (kind % 256)) else a
  if L.getD 13 false = true then b.setCell ⟨pb, q, none⟩ (.int .u8 90) else b
theorem arr14 (L : Array Bool) (h : L.size = 14) : ∃ l0 l1 l2 l3 l4 l5 l6 l7 l8 l9 l10 l11 l12 l13 : Bool, L = #[l0, l1, l2, l3, l4, l5, l6, l7, l8, l9, l10, l11, l12, l13] := by
  obtain ⟨l⟩ := L
  match l, h with
  | [l0, l1, l2, l3, l4, l5, l6, l7, l8, l9, l10, l11, l12, l13], _ => exact ⟨l0, l1, l2, l3, l4, l5, l6, l7, l8, l9, l10, l11, l12, l13, rfl⟩
theorem setCell_swap (w : World) (b i j : Nat) (u v : Value) (h : i ≠ j) : (w.setCell ⟨b, i, none⟩ u).setCell ⟨b, j, none⟩ v = (w.setCell ⟨b, j, none⟩ v).setCell ⟨b, i, none⟩ u := by
  unfold World.setCell
  congr 1
  apply Array.ext_getElem?
  intro k
  simp only [Array.getElem?_modify]
  by_cases hk : b = k
  · subst hk
    simp only [if_true]
    cases w.heap[b]? with
    | none => rfl
    | some o => cases o <;> simp [Array.setIfInBounds_comm _ _ h]
  · simp [hk]
end Go.Proofs.YtdkpbobglogmoaaGreat
