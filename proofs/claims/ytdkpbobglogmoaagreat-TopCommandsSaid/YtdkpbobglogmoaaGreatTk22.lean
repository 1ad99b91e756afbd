/- Parts of the proof of TopCommandsProof: TopGo1. -/
import Derived.Test.YtdkpbobglogmoaaGreatTk21
set_option linter.unusedVariables false
set_option linter.unusedSimpArgs false
set_option maxRecDepth 100000
set_option maxHeartbeats 32000000
namespace Go.Proofs.YtdkpbobglogmoaaGreat
open Go Go.Conc Go.RowKit Go.Conc.Lib
open Go.ConcX.Gen (at_at)
namespace Pool
section
variable {E : Event → Prop} {Ok : Nat → Prop} {Stop : Goroutine → World → Prop} {n : Nat} {W : World}
theorem go1 {T : Array Value} {K : List Frame} {a0 a1 a3 a4 x0 x1 x2 x3 x4 x5 : Int} {vp : Value} (sT : T.size = 109) (e0 : T.getD 0 undef = .int .i64 a0) (e1 : T.getD 1 undef = .int .i64 a1) (e2 : T.getD 2 undef = vp) (e3 : T.getD 3 undef = .int .i64 a3) (e4 : T.getD 4 undef = .int .i64 a4) (e5 : T.getD 5 undef = .agg #[.int .i64 x0, .int .i64 x1, .int .i64 x2, .int .i64 x3, .int .i64 x4, .int .i64 x5]) (hr : ∀ i, late3 i = true → T.getD i undef = undef)
    (hk : ∀ d T3 T4, T3.size = 109 → T4.size = 51 → T3.getD 0 undef = .int .i64 a0 → T3.getD 1 undef = .int .i64 a1 → T3.getD 2 undef = vp → T3.getD 3 undef = .int .i64 a3 → T3.getD 4 undef = .int .i64 a4 → T3.getD 5 undef = .agg #[.int .i64 x0, .int .i64 x1, .int .i64 x2, .int .i64 x3, .int .i64 x4, .int .i64 x5] → T3.getD 11 undef = .pointer (some ⟨W.heap.size, 0, none⟩) → T3.getD 12 undef = .bool false → (∀ i, late3 i = true → T3.getD i undef = undef) →
      T4.getD 9 undef = .agg #[.int .i64 1, .int .i64 1, .int .i64 1, .slice (some ⟨W.heap.size + 1, 0, none⟩) 1 1] →
      Goes Tryz.prog true Go.Conc.AtRel (DE E) Stop n (G ((base 4).at ⟨T4, []⟩ [.inRegion oc4ba [2, 3, 4, 5, 6, 7], .code c4bb]) ((base 3).at ⟨T3, []⟩ [.inRegion oc3ba [0, 1], .code c3bb] :: K)) ((after W [.cells #[.int .i64 x0, .int .i64 x1, .int .i64 x2, .int .i64 x3, .int .i64 x4, .int .i64 x5] 24, .cells #[.int .u8 5] 5]).at d)) :
    Goes Tryz.prog true Go.Conc.AtRel (DE E) Stop (n + 60) (G ((base 3).at ⟨T, []⟩ [.code c3]) K) W := by
  obtain ⟨i8, hi8, hz8, hs8⟩ : ∃ i0, Tryz.prog.info? 5 = some i0 ∧ i0.zero = some (.int .u8 0) ∧ i0.size = 1 := ⟨_, rfl, rfl, rfl⟩
  have hb5 := fun w => bs_one (P := Tryz.prog) (t := 33) (e := 5) (parts := #[(0, Value.int .u8 5)]) (cells := #[.int .u8 5]) (ie := i8) (z := .int .u8 0) (w := w) rfl hi8 hz8 hs8 (by have h0 : Array.range 1 = #[0] := rfl; simp [Instr.fill, Value.cells, h0])
  have hbd : ∀ (w : World) (a : Option Addr) (n c : Nat), (Instr.build 46 #[(0, .int .i64 1), (1, .int .i64 1), (2, .int .i64 1), (3, .slice a n c)]).run Tryz.prog w = .ok (.agg #[.int .i64 1, .int .i64 1, .int .i64 1, .slice a n c]) w ∧ (Instr.build 46 #[(0, .int .i64 1), (1, .int .i64 1), (2, .int .i64 1), (3, .slice a n c)]).events Tryz.prog w #[] = #[] := fun w a n c => ⟨run_build w 46 _ _ (by rfl), by simp [Instr.build, go_sem]⟩
  rw [show W = (after W []).at W.drawn by rw [after_nil]; rfl]
  refine goes_same rfl (fun w => stepG_seq) (fun d => ?_)
  refine goes_same rfl (fun w => stepG_region) (fun d => ?_)
  show Goes _ _ _ _ _ (n + 58) (G ((base 3).at ⟨T, []⟩ [.inRegion oc3a [0, 1], .code c3b]) _) _
  have eo1 : (oc3a[0]'(by decide)).op = Op.box 24 (Operand.tmp 5) := by rfl
  refine goes_opn' (v := .pointer (some ⟨W.heap.size, 0, none⟩)) (ob := .cells #[.int .i64 x0, .int .i64 x1, .int .i64 x2, .int .i64 x3, .int .i64 x4, .int .i64 x5] 24) (o := oc3a[0]'(by decide)) (by rfl) (by rfl) (by k_ne) (fun d => ?_) (fun d e he => ?_) (fun d => ?_)
  · show (execOp (Act.eval ⟨T, []⟩) _).run _ _ = _
    unfold execOp
    simp [eo1, go_sem, Act.eval, ← Array.getD_eq_getD_getElem?, e5, size_after]
  · rw [show (execOp (Act.eval ⟨T, []⟩) (oc3a[0]'(by decide))) = _ from by unfold execOp; rw [eo1]] at he
    simp [eo1, go_sem, Act.eval, ← Array.getD_eq_getD_getElem?, e5, size_after] at he
  simp only [List.nil_append, List.cons_append, Nat.add_zero]
  obtain ⟨T2_, hT2_⟩ : ∃ T2_, T2_ = T.setIfInBounds 11 (.pointer (some ⟨W.heap.size, 0, none⟩)) := ⟨_, rfl⟩
  have sT2_ : T2_.size = 109 := by rw [hT2_]; simpa using sT
  have e0_2 : T2_.getD 0 undef = .int .i64 a0 := by rw [hT2_, getD_ne (by decide)]; exact e0
  have e1_2 : T2_.getD 1 undef = .int .i64 a1 := by rw [hT2_, getD_ne (by decide)]; exact e1
  have e2_2 : T2_.getD 2 undef = vp := by rw [hT2_, getD_ne (by decide)]; exact e2
  have e3_2 : T2_.getD 3 undef = .int .i64 a3 := by rw [hT2_, getD_ne (by decide)]; exact e3
  have e4_2 : T2_.getD 4 undef = .int .i64 a4 := by rw [hT2_, getD_ne (by decide)]; exact e4
  have e5_2 : T2_.getD 5 undef = .agg #[.int .i64 x0, .int .i64 x1, .int .i64 x2, .int .i64 x3, .int .i64 x4, .int .i64 x5] := by rw [hT2_, getD_ne (by decide)]; exact e5
  have e11_2 : T2_.getD 11 undef = .pointer (some ⟨W.heap.size, 0, none⟩) := by rw [hT2_]; exact getD_same (by rw [sT]; decide)
  show Goes _ _ _ _ _ (n + 57) (G ((base 3).at ⟨T.setIfInBounds 11 (.pointer (some ⟨W.heap.size, 0, none⟩)), []⟩ [.inRegion oc3a [1], .code c3b]) _) _
  rw [← hT2_]
  have q2 : ∀ i, late3 i = true → T2_.getD i undef = undef := fun i h1 => by rw [hT2_, getD_ne (fun e => by subst e; exact absurd h1 (by decide))]; exact hr i h1
  refine goes_mv (s := 12) (v := .bool false) (o := oc3a[1]'(by decide)) (by rfl) (by rfl) (by k_ne) (.inr rfl) rfl rfl fun T4_ hT4_ d => ?_
  have sT4_ : T4_.size = 109 := by rw [hT4_]; simpa using sT2_
  have e0_4 : T4_.getD 0 undef = .int .i64 a0 := by rw [hT4_, getD_ne (by decide)]; exact e0_2
  have e1_4 : T4_.getD 1 undef = .int .i64 a1 := by rw [hT4_, getD_ne (by decide)]; exact e1_2
  have e2_4 : T4_.getD 2 undef = vp := by rw [hT4_, getD_ne (by decide)]; exact e2_2
  have e3_4 : T4_.getD 3 undef = .int .i64 a3 := by rw [hT4_, getD_ne (by decide)]; exact e3_2
  have e4_4 : T4_.getD 4 undef = .int .i64 a4 := by rw [hT4_, getD_ne (by decide)]; exact e4_2
  have e5_4 : T4_.getD 5 undef = .agg #[.int .i64 x0, .int .i64 x1, .int .i64 x2, .int .i64 x3, .int .i64 x4, .int .i64 x5] := by rw [hT4_, getD_ne (by decide)]; exact e5_2
  have e11_4 : T4_.getD 11 undef = .pointer (some ⟨W.heap.size, 0, none⟩) := by rw [hT4_, getD_ne (by decide)]; exact e11_2
  have e12_4 : T4_.getD 12 undef = .bool false := by rw [hT4_]; exact getD_same (by rw [sT2_]; decide)
  have q4 : ∀ i, late3 i = true → T4_.getD i undef = undef := fun i h1 => by rw [hT4_, getD_ne (fun e => by subst e; exact absurd h1 (by decide))]; exact q2 i h1
  refine goes_same rfl (fun w => stepG_region_end) (fun d => ?_)
  refine goes_same rfl (fun w => stepG_seq) (fun d => ?_)
  refine goes_same rfl (fun w => stepG_region) (fun d => ?_)
  show Goes _ _ _ _ _ (n + 53) (G ((base 3).at ⟨T4_, []⟩ [.inRegion oc3ba [0, 1], .code c3bb]) _) _
  obtain ⟨T5_, hT5_⟩ : ∃ T5_ : Array Value, T5_ = #[] ++ Array.replicate 51 undef := ⟨_, rfl⟩
  have sT5_ : T5_.size = 51 := by rw [hT5_]; simp
  refine goes_enter' (W := (after W [.cells #[.int .i64 x0, .int .i64 x1, .int .i64 x2, .int .i64 x3, .int .i64 x4, .int .i64 x5] 24]).at _) (by rfl) (by rfl) (by k_ne) (by rfl) Tryz.func4 nm4 (by rfl) (T' := T5_) (by rw [hT5_]; simp only [List.map_toArray, List.map_cons, List.map_nil, Act.eval, Tryz.ntmps4, List.size_toArray, List.length_cons, List.length_nil, Nat.reduceAdd, Nat.reduceSub]) (fun d => ?_)
  simp only [at_at]
  have e9_5 : T5_.getD 9 undef = undef := by rw [hT5_]; simp [Array.getD_eq_getD_getElem?, Array.getElem?_append]
  show Goes _ _ _ _ _ (n + 52) (G ((base 4).at ⟨T5_, []⟩ [.code c4]) _) _
  refine goes_same rfl (fun w => stepG_seq) (fun d => ?_)
  refine goes_same rfl (fun w => stepG_region) (fun d => ?_)
  show Goes _ _ _ _ _ (n + 50) (G ((base 4).at ⟨T5_, []⟩ [.inRegion oc4a [0], .code c4b]) _) _
  refine goes_mv (s := 0) (v := .bool false) (o := oc4a[0]'(by decide)) (by rfl) (by rfl) (by k_ne) (.inr rfl) rfl rfl fun T7_ hT7_ d => ?_
  have sT7_ : T7_.size = 51 := by rw [hT7_]; simpa using sT5_
  have e9_7 : T7_.getD 9 undef = undef := by rw [hT7_, getD_ne (by decide)]; exact e9_5
  refine goes_same rfl (fun w => stepG_region_end) (fun d => ?_)
  refine goes_same rfl (fun w => stepG_seq) (fun d => ?_)
  refine goes_same rfl (fun w => stepG_region) (fun d => ?_)
  show Goes _ _ _ _ _ (n + 46) (G ((base 4).at ⟨T7_, []⟩ [.inRegion oc4ba [0, 1, 2, 3, 4, 5, 6, 7], .code c4bb]) _) _
  have eo8 : (oc4ba[0]'(by decide)).op = Op.buildSlice 33 1 #[(0, Operand.const (Value.int IntKind.u8 5))] := by rfl
  refine goes_opn' (v := .slice (some ⟨W.heap.size + 1, 0, none⟩) 1 1) (ob := .cells #[.int .u8 5] 5) (o := oc4ba[0]'(by decide)) (by rfl) (by rfl) (by k_ne) (fun d => ?_) (fun d e he => ?_) (fun d => ?_)
  · show (execOp (Act.eval ⟨T7_, []⟩) _).run _ _ = _
    unfold execOp
    simp only [eo8, Act.eval, List.map_toArray, List.map_cons, List.map_nil, Option.map_none]
    exact (val_run (hb5 _).1).trans (by rw [size_after]; rfl)
  · rw [show (execOp (Act.eval ⟨T7_, []⟩) (oc4ba[0]'(by decide))) = _ from by unfold execOp; rw [eo8]] at he
    simp only [Act.eval, List.map_toArray, List.map_cons, List.map_nil, Option.map_none] at he
    rw [val_ev (hb5 _)] at he
    simp at he
  simp only [List.nil_append, List.cons_append, Nat.add_zero]
  obtain ⟨T9_, hT9_⟩ : ∃ T9_, T9_ = T7_.setIfInBounds 8 (.slice (some ⟨W.heap.size + 1, 0, none⟩) 1 1) := ⟨_, rfl⟩
  have sT9_ : T9_.size = 51 := by rw [hT9_]; simpa using sT7_
  have e9_9 : T9_.getD 9 undef = undef := by rw [hT9_, getD_ne (by decide)]; exact e9_7
  have e8_9 : T9_.getD 8 undef = .slice (some ⟨W.heap.size + 1, 0, none⟩) 1 1 := by rw [hT9_]; exact getD_same (by rw [sT7_]; decide)
  show Goes _ _ _ _ _ (n + 45) (G ((base 4).at ⟨T7_.setIfInBounds 8 (.slice (some ⟨W.heap.size + 1, 0, none⟩) 1 1), []⟩ [.inRegion oc4ba [1, 2, 3, 4, 5, 6, 7], .code c4bb]) _) _
  rw [← hT9_]
  have eo10 : (oc4ba[1]'(by decide)).op = Op.build 46 #[(0, Operand.const (Value.int IntKind.i64 1)), (1, Operand.const (Value.int IntKind.i64 1)), (2, Operand.const (Value.int IntKind.i64 1)), (3, Operand.tmp 8)] := by rfl
  refine goes_opr (v := .agg #[.int .i64 1, .int .i64 1, .int .i64 1, .slice (some ⟨W.heap.size + 1, 0, none⟩) 1 1]) (o := oc4ba[1]'(by decide)) (by rfl) (by rfl) (by k_ne) (fun d => ?_) (fun d e he => ?_) (fun d => ?_)
  · show (execOp (Act.eval ⟨T9_, []⟩) _).run _ _ = _
    unfold execOp
    simp only [eo10, Act.eval, List.map_toArray, List.map_cons, List.map_nil, e8_9]
    exact val_run (hbd _ _ _ _).1
  · rw [show (execOp (Act.eval ⟨T9_, []⟩) (oc4ba[1]'(by decide))) = _ from by unfold execOp; rw [eo10]] at he
    simp only [Act.eval, List.map_toArray, List.map_cons, List.map_nil, e8_9] at he
    rw [val_ev (hbd _ _ _ _)] at he
    simp at he
  obtain ⟨T11_, hT11_⟩ : ∃ T11_, T11_ = T9_.setIfInBounds 9 (.agg #[.int .i64 1, .int .i64 1, .int .i64 1, .slice (some ⟨W.heap.size + 1, 0, none⟩) 1 1]) := ⟨_, rfl⟩
  have sT11_ : T11_.size = 51 := by rw [hT11_]; simpa using sT9_
  have e9_11 : T11_.getD 9 undef = .agg #[.int .i64 1, .int .i64 1, .int .i64 1, .slice (some ⟨W.heap.size + 1, 0, none⟩) 1 1] := by rw [hT11_]; exact getD_same (by rw [sT9_]; decide)
  show Goes _ _ _ _ _ (n + 44) (G ((base 4).at ⟨T9_.setIfInBounds 9 (.agg #[.int .i64 1, .int .i64 1, .int .i64 1, .slice (some ⟨W.heap.size + 1, 0, none⟩) 1 1]), []⟩ [.inRegion oc4ba [2, 3, 4, 5, 6, 7], .code c4bb]) _) _
  rw [← hT11_]
  exact Goes.mono (hk _ _ _ sT4_ sT11_ e0_4 e1_4 e2_4 e3_4 e4_4 e5_4 e11_4 e12_4 q4 e9_11) (by omega)
end
end Pool
end Go.Proofs.YtdkpbobglogmoaaGreat
