/- Parts of the proof of TopCommandsProof: PoolLast PoolHelp TopDefs. -/
import Derived.Test.YtdkpbobglogmoaaGreatTk9
import Derived.Test.YtdkpbobglogmoaaGreatTk20
set_option linter.unusedVariables false
set_option linter.unusedSimpArgs false
set_option maxRecDepth 100000
set_option maxHeartbeats 32000000
namespace Go.Proofs.YtdkpbobglogmoaaGreat
open Go Go.Conc Go.RowKit Go.Conc.Lib
open Go.ConcX.Gen (at_at)
namespace Pool
noncomputable def body15 : Code := match back14 with | .block _ (.loop c) => c | _ => .skip
noncomputable def ops15 : Array Oper := match body15 with | .seq (.region _ ops _) _ => ops | _ => #[]
noncomputable def rest15 : Code := match body15 with | .seq _ c => c | _ => .skip
noncomputable def in15 : Code := match rest15 with | .seq _ c => c | _ => .skip
noncomputable def blk16 : Code := match in15 with | .seq (.block _ c) _ => c | _ => .skip
noncomputable def ops16 : Array Oper := match blk16 with | .seq (.region _ ops _) _ => ops | _ => #[]
noncomputable def reg17 : Code := match blk16 with | .seq _ c => c | _ => .skip
noncomputable def ops17 : Array Oper := match reg17 with | .region _ ops _ => ops | _ => #[]
noncomputable def reg18 : Code := match in15 with | .seq _ c => c | _ => .skip
noncomputable def ops18 : Array Oper := match reg18 with | .region _ ops _ => ops | _ => #[]
noncomputable def ops19 : Array Oper := match back19 with | .seq (.region _ ops _) _ => ops | _ => #[]
section
variable {P : Program} {w : World}
theorem lookup_one {t k e : TypeId} {m st clk : Nat} {x : Int} {V : Value} (ht : P.underlying t = some (.map k e)) (hk : P.underlying k = some (.int .i64)) (hm : w.heap[m]? = some (.map #[⟨.int .i64 x, V, st⟩] clk)) :
    (Instr.lookup t (.map (some m)) (.int .i64 x) false).run P w = .ok V w ∧ (Instr.lookup t (.map (some m)) (.int .i64 x) false).events P w #[] = #[⟨.obj m, false, false⟩] := by
  have hf : Instr.findNow (.int .i64) (.int .i64 x) [⟨.int .i64 x, V, st⟩] 0 = some (some (0, V)) := by simp [Instr.findNow, Instr.sameNow]
  have hck : ∀ w, (Instr.checkKey false 10000 k (.int .i64 x)).run P w = .ok () w := fun w => by
    rw [Instr.checkKey]
    simp [run_underlying hk]
  have hce : ∀ w es, (Instr.checkKey false 10000 k (.int .i64 x)).events P w es = es := fun w es => by
    rw [Instr.checkKey]
    simp [run_underlying hk]
  constructor
  · simp [Instr.lookup, run_underlying ht, run_getObj_is hm trivial, hck, run_underlying hk, Instr.findKey, hf]
  · simp [Instr.lookup, run_underlying ht, run_getObj_is hm trivial, events_getObj_is hm trivial, hck, hce, run_underlying hk, Instr.findKey, hf, Obj.isChan]
theorem bs_many {t e : TypeId} {parts : Array (Nat × Value)} {cells : Array Value} {ie : TypeInfo} {z : Value} {s : Nat} (hu : P.underlying t = some (.slice e)) (hie : P.info? e = some ie) (hz : ie.zero = some z) (hs : ie.size = s) (h1 : ¬ 1 * s > 2 ^ 24) (h2 : ¬ 1 * s = 0)
    (h : Instr.fill (fun i => some (i * s, s)) ((Array.range (1 * s)).map (z.cells[· % z.cells.size]!)) parts.toList = some cells) :
    (Instr.buildSlice t 1 parts).run P w = .ok (.slice (some ⟨w.heap.size, 0, none⟩) 1 1) (w.alloc (.cells cells e)) ∧ (Instr.buildSlice t 1 parts).events P w #[] = #[] := by
  subst hs
  constructor
  · exact run_buildSlice w t e 1 parts cells ie z hu hie hz h1 h2 h
  · simp only [Nat.one_mul] at h h1 h2
    simp [Instr.buildSlice, run_underlying hu, sizeOf, typeInfo, zeroValue, hie, hz, h, h1, h2, newRow]
end
section
variable {E : Event → Prop} {Ok : Nat → Prop} {Stop : Goroutine → World → Prop} {b₀ : Frame} {a₀ : Act} {ops : Array Oper} {i : Nat} {rest : List Nat} {k : List Item} {cs : List Frame} {n : Nat} {W : World}
theorem last_goes {T : Array Value} {mb st r cap : Nat} {kk x1 x2 x3 x4 : Int} {zs : Array Value} (hT : T.size = 101) (t7 : T[7]? = some (.map (some mb))) (t12 : T[12]? = some (.slice none 0 0)) (t87 : T[87]? = some (.slice (some ⟨r, 0, none⟩) 1 cap)) (hE : Lets E Ok)
    (hmb : W.heap[mb]? = some (.map #[⟨.int .i64 kk, .agg #[.int .i64 x1, .int .i64 x2, .int .i64 x3, .int .i64 x4], st⟩] (st + 1))) (hr : W.heap[r]? = some (.cells (#[.int .i64 kk] ++ zs) 3)) (omb : Ok mb) (or : Ok r) (onew : ∀ j, j < 2 → Ok (W.heap.size + j))
    (hk : ∀ d L cap2, L.length = 2 → L[1]? = some (.cells (#[.int .i64 x1, .int .i64 x2, .int .i64 x3, .int .i64 x4] ++ Builtin.zeroCells (Value.agg #[.int .i64 0, .int .i64 0, .int .i64 0, .int .i64 0]).cells (cap2 - 1)) 53) →
      Goes Tryz.prog true Go.Conc.AtRel (DE E) Stop n (G (b₀.at (a₀.put ((ops[i]?).bind (·.dst)) (.tuple #[.slice (some ⟨W.heap.size + 1, 0, none⟩) 1 cap2, .nilIface])) (.inRegion ops rest :: k)) cs) ((after W L).at d)) :
    Goes Tryz.prog true Go.Conc.AtRel (DE E) Stop (n + 100) (G (b11.at ⟨T, []⟩ [.inRegion ops14 [3, 4], .code back14, .code back19]) (b₀.at a₀ (.inRegion ops (i :: rest) :: k) :: cs)) W := by
  have hcell : ∀ L d, ((after W L).at d).cell? ⟨r, 0, none⟩ = some (.int .i64 kk) := fun L d => after_cell_old (by simp [World.cell?, hr, Array.getElem?_append])
  have hm2 : ∀ L d, ((after W L).at d).heap[mb]? = some (.map #[⟨.int .i64 kk, .agg #[.int .i64 x1, .int .i64 x2, .int .i64 x3, .int .i64 x4], st⟩] (st + 1)) := fun L d => (after_old (Array.getElem?_eq_some_iff.1 hmb).1).trans hmb
  rw [show W = (after W []).at W.drawn by rw [after_nil]; rfl]
  have e7 : T.getD 7 undef = .map (some mb) := by simp [Array.getD_eq_getD_getElem?, t7]
  have e12 : T.getD 12 undef = .slice none 0 0 := by simp [Array.getD_eq_getD_getElem?, t12]
  have e87 : T.getD 87 undef = .slice (some ⟨r, 0, none⟩) 1 cap := by simp [Array.getD_eq_getD_getElem?, t87]
  have eo0 : (ops14[3]'(by decide)).op = .call { callee := .builtin .len, args := #[.tmp 87], argTypes := #[22] } := by rfl
  refine goes_opr (v := .int .i64 1) (o := ops14[3]'(by decide)) (by rfl) (by rfl) (by k_ne) (fun d => ?_) (fun d e he => ?_) (fun d => ?_)
  · show (execOp (Act.eval ⟨T, []⟩) _).run _ _ = _
    unfold execOp
    simp [eo0, go_sem, Act.eval, ← Array.getD_eq_getD_getElem?, e87, goInt]
  · rw [show (execOp (Act.eval ⟨T, []⟩) (ops14[3]'(by decide))) = _ from by unfold execOp; rw [eo0]] at he
    simp [eo0, go_sem, Act.eval, ← Array.getD_eq_getD_getElem?, e87, goInt] at he
  obtain ⟨T1_, hT1_⟩ : ∃ T1_, T1_ = T.setIfInBounds 88 (.int .i64 1) := ⟨_, rfl⟩
  have sT1_ : T1_.size = 101 := by rw [hT1_]; simpa using hT
  have e7_1 : T1_.getD 7 undef = .map (some mb) := by rw [hT1_, getD_ne (by decide)]; exact e7
  have e12_1 : T1_.getD 12 undef = .slice none 0 0 := by rw [hT1_, getD_ne (by decide)]; exact e12
  have e87_1 : T1_.getD 87 undef = .slice (some ⟨r, 0, none⟩) 1 cap := by rw [hT1_, getD_ne (by decide)]; exact e87
  have e88_1 : T1_.getD 88 undef = .int .i64 1 := by rw [hT1_]; exact getD_same (by rw [hT]; decide)
  show Goes _ _ _ _ _ (n + 99) (G (b11.at ⟨T.setIfInBounds 88 (.int .i64 1), []⟩ [.inRegion ops14 [4], .code back14, .code back19]) _) _
  rw [← hT1_]
  have eo1 : (ops14[4]'(by decide)).op = .move (.const (.int .i64 0)) := by rfl
  refine goes_opr (v := .int .i64 0) (o := ops14[4]'(by decide)) (by rfl) (by rfl) (by k_ne) (fun d => ?_) (fun d e he => ?_) (fun d => ?_)
  · show (execOp (Act.eval ⟨T1_, []⟩) _).run _ _ = _
    unfold execOp
    simp [eo1, go_sem, Act.eval, ← Array.getD_eq_getD_getElem?]
  · rw [show (execOp (Act.eval ⟨T1_, []⟩) (ops14[4]'(by decide))) = _ from by unfold execOp; rw [eo1]] at he
    simp [eo1, go_sem, Act.eval, ← Array.getD_eq_getD_getElem?] at he
  obtain ⟨T2_, hT2_⟩ : ∃ T2_, T2_ = T1_.setIfInBounds 89 (.int .i64 0) := ⟨_, rfl⟩
  have sT2_ : T2_.size = 101 := by rw [hT2_]; simpa using sT1_
  have e7_2 : T2_.getD 7 undef = .map (some mb) := by rw [hT2_, getD_ne (by decide)]; exact e7_1
  have e12_2 : T2_.getD 12 undef = .slice none 0 0 := by rw [hT2_, getD_ne (by decide)]; exact e12_1
  have e87_2 : T2_.getD 87 undef = .slice (some ⟨r, 0, none⟩) 1 cap := by rw [hT2_, getD_ne (by decide)]; exact e87_1
  have e88_2 : T2_.getD 88 undef = .int .i64 1 := by rw [hT2_, getD_ne (by decide)]; exact e88_1
  have e89_2 : T2_.getD 89 undef = .int .i64 0 := by rw [hT2_]; exact getD_same (by rw [sT1_]; decide)
  show Goes _ _ _ _ _ (n + 98) (G (b11.at ⟨T1_.setIfInBounds 89 (.int .i64 0), []⟩ [.inRegion ops14 [], .code back14, .code back19]) _) _
  rw [← hT2_]
  refine goes_same rfl (fun w => stepG_region_end) (fun d => ?_)
  refine goes_same rfl (fun w => stepG_block) (fun d => ?_)
  refine goes_same rfl (fun w => stepG_loop) (fun d => ?_)
  refine goes_same rfl (fun w => stepG_seq) (fun d => ?_)
  refine goes_same rfl (fun w => stepG_region) (fun d => ?_)
  have eo2 : (ops15[0]'(by decide)).op = .binOp .lss 3 (.tmp 89) (.tmp 88) 3 := by rfl
  refine goes_opr (v := .bool true) (o := ops15[0]'(by decide)) (by rfl) (by rfl) (by k_ne) (fun d => ?_) (fun d e he => ?_) (fun d => ?_)
  · show (execOp (Act.eval ⟨T2_, []⟩) _).run _ _ = _
    unfold execOp
    simp [eo2, go_sem, Act.eval, ← Array.getD_eq_getD_getElem?, e89_2, e88_2]
  · rw [show (execOp (Act.eval ⟨T2_, []⟩) (ops15[0]'(by decide))) = _ from by unfold execOp; rw [eo2]] at he
    simp [eo2, go_sem, Act.eval, ← Array.getD_eq_getD_getElem?, e89_2, e88_2] at he
  obtain ⟨T3_, hT3_⟩ : ∃ T3_, T3_ = T2_.setIfInBounds 90 (.bool true) := ⟨_, rfl⟩
  have sT3_ : T3_.size = 101 := by rw [hT3_]; simpa using sT2_
  have e7_3 : T3_.getD 7 undef = .map (some mb) := by rw [hT3_, getD_ne (by decide)]; exact e7_2
  have e12_3 : T3_.getD 12 undef = .slice none 0 0 := by rw [hT3_, getD_ne (by decide)]; exact e12_2
  have e87_3 : T3_.getD 87 undef = .slice (some ⟨r, 0, none⟩) 1 cap := by rw [hT3_, getD_ne (by decide)]; exact e87_2
  have e88_3 : T3_.getD 88 undef = .int .i64 1 := by rw [hT3_, getD_ne (by decide)]; exact e88_2
  have e89_3 : T3_.getD 89 undef = .int .i64 0 := by rw [hT3_, getD_ne (by decide)]; exact e89_2
  have e90_3 : T3_.getD 90 undef = .bool true := by rw [hT3_]; exact getD_same (by rw [sT2_]; decide)
  show Goes _ _ _ _ _ (n + 92) (G (b11.at ⟨T2_.setIfInBounds 90 (.bool true), []⟩ [.inRegion ops15 [], .code rest15, .inLoop body15, .inBlock 2, .code back19]) _) _
  rw [← hT3_]
  refine goes_same rfl (fun w => stepG_region_end) (fun d => ?_)
  refine goes_same rfl (fun w => stepG_seq) (fun d => ?_)
  refine goes_same rfl (fun w => stepG_cond (t := true) e90_3) (fun d => ?_)
  refine goes_same rfl (fun w => stepG_skip) (fun d => ?_)
  refine goes_same rfl (fun w => stepG_seq) (fun d => ?_)
  refine goes_same rfl (fun w => stepG_block) (fun d => ?_)
  refine goes_same rfl (fun w => stepG_seq) (fun d => ?_)
  refine goes_same rfl (fun w => stepG_region) (fun d => ?_)
  have eo3 : (ops16[0]'(by decide)).op = .indexAddr 22 (.tmp 87) (.tmp 89) := by rfl
  refine goes_opr (v := .pointer (some ⟨r, 0, none⟩)) (o := ops16[0]'(by decide)) (by rfl) (by rfl) (by k_ne) (fun d => ?_) (fun d e he => ?_) (fun d => ?_)
  · show (execOp (Act.eval ⟨T3_, []⟩) _).run _ _ = _
    unfold execOp
    simp [eo3, go_sem, Act.eval, ← Array.getD_eq_getD_getElem?, e87_3, e89_3]
  · rw [show (execOp (Act.eval ⟨T3_, []⟩) (ops16[0]'(by decide))) = _ from by unfold execOp; rw [eo3]] at he
    simp [eo3, go_sem, Act.eval, ← Array.getD_eq_getD_getElem?, e87_3, e89_3] at he
  obtain ⟨T4_, hT4_⟩ : ∃ T4_, T4_ = T3_.setIfInBounds 91 (.pointer (some ⟨r, 0, none⟩)) := ⟨_, rfl⟩
  have sT4_ : T4_.size = 101 := by rw [hT4_]; simpa using sT3_
  have e7_4 : T4_.getD 7 undef = .map (some mb) := by rw [hT4_, getD_ne (by decide)]; exact e7_3
  have e12_4 : T4_.getD 12 undef = .slice none 0 0 := by rw [hT4_, getD_ne (by decide)]; exact e12_3
  have e88_4 : T4_.getD 88 undef = .int .i64 1 := by rw [hT4_, getD_ne (by decide)]; exact e88_3
  have e89_4 : T4_.getD 89 undef = .int .i64 0 := by rw [hT4_, getD_ne (by decide)]; exact e89_3
  have e91_4 : T4_.getD 91 undef = .pointer (some ⟨r, 0, none⟩) := by rw [hT4_]; exact getD_same (by rw [sT3_]; decide)
  show Goes _ _ _ _ _ (n + 83) (G (b11.at ⟨T3_.setIfInBounds 91 (.pointer (some ⟨r, 0, none⟩)), []⟩ [.inRegion ops16 [1, 2], .code reg17, .inBlock 3, .code reg18, .inLoop body15, .inBlock 2, .code back19]) _) _
  rw [← hT4_]
  have eo4 : (ops16[1]'(by decide)).op = .load 3 (.tmp 91) := by rfl
  refine goes_opr (v := .int .i64 kk) (o := ops16[1]'(by decide)) (by rfl) (by rfl) (by k_ne) (fun d => ?_) (fun d e he => ?_) (fun d => ?_)
  · show (execOp (Act.eval ⟨T4_, []⟩) _).run _ _ = _
    unfold execOp
    simp [eo4, go_sem, Act.eval, ← Array.getD_eq_getD_getElem?, e91_4, hcell]
  · rw [show (execOp (Act.eval ⟨T4_, []⟩) (ops16[1]'(by decide))) = _ from by unfold execOp; rw [eo4]] at he
    simp [eo4, go_sem, Act.eval, ← Array.getD_eq_getD_getElem?, e91_4, hcell] at he
    subst he
    exact hE.cell _ _ _ or
  obtain ⟨T5_, hT5_⟩ : ∃ T5_, T5_ = T4_.setIfInBounds 92 (.int .i64 kk) := ⟨_, rfl⟩
  have sT5_ : T5_.size = 101 := by rw [hT5_]; simpa using sT4_
  have e7_5 : T5_.getD 7 undef = .map (some mb) := by rw [hT5_, getD_ne (by decide)]; exact e7_4
  have e12_5 : T5_.getD 12 undef = .slice none 0 0 := by rw [hT5_, getD_ne (by decide)]; exact e12_4
  have e88_5 : T5_.getD 88 undef = .int .i64 1 := by rw [hT5_, getD_ne (by decide)]; exact e88_4
  have e89_5 : T5_.getD 89 undef = .int .i64 0 := by rw [hT5_, getD_ne (by decide)]; exact e89_4
  have e92_5 : T5_.getD 92 undef = .int .i64 kk := by rw [hT5_]; exact getD_same (by rw [sT4_]; decide)
  show Goes _ _ _ _ _ (n + 82) (G (b11.at ⟨T4_.setIfInBounds 92 (.int .i64 kk), []⟩ [.inRegion ops16 [2], .code reg17, .inBlock 3, .code reg18, .inLoop body15, .inBlock 2, .code back19]) _) _
  rw [← hT5_]
  have eo5 : (ops16[2]'(by decide)).op = .assign (.tmp 92) := by rfl
  refine goes_opr (v := .int .i64 kk) (o := ops16[2]'(by decide)) (by rfl) (by rfl) (by k_ne) (fun d => ?_) (fun d e he => ?_) (fun d => ?_)
  · show (execOp (Act.eval ⟨T5_, []⟩) _).run _ _ = _
    unfold execOp
    simp [eo5, go_sem, Act.eval, ← Array.getD_eq_getD_getElem?, e92_5]
  · rw [show (execOp (Act.eval ⟨T5_, []⟩) (ops16[2]'(by decide))) = _ from by unfold execOp; rw [eo5]] at he
    simp [eo5, go_sem, Act.eval, ← Array.getD_eq_getD_getElem?, e92_5] at he
  obtain ⟨T6_, hT6_⟩ : ∃ T6_, T6_ = T5_.setIfInBounds 14 (.int .i64 kk) := ⟨_, rfl⟩
  have sT6_ : T6_.size = 101 := by rw [hT6_]; simpa using sT5_
  have e7_6 : T6_.getD 7 undef = .map (some mb) := by rw [hT6_, getD_ne (by decide)]; exact e7_5
  have e12_6 : T6_.getD 12 undef = .slice none 0 0 := by rw [hT6_, getD_ne (by decide)]; exact e12_5
  have e88_6 : T6_.getD 88 undef = .int .i64 1 := by rw [hT6_, getD_ne (by decide)]; exact e88_5
  have e89_6 : T6_.getD 89 undef = .int .i64 0 := by rw [hT6_, getD_ne (by decide)]; exact e89_5
  have e14_6 : T6_.getD 14 undef = .int .i64 kk := by rw [hT6_]; exact getD_same (by rw [sT5_]; decide)
  show Goes _ _ _ _ _ (n + 81) (G (b11.at ⟨T5_.setIfInBounds 14 (.int .i64 kk), []⟩ [.inRegion ops16 [], .code reg17, .inBlock 3, .code reg18, .inLoop body15, .inBlock 2, .code back19]) _) _
  rw [← hT6_]
  refine goes_same rfl (fun w => stepG_region_end) (fun d => ?_)
  refine goes_same rfl (fun w => stepG_region) (fun d => ?_)
  have eo6 : (ops17[0]'(by decide)).op = .move (.tmp 12) := by rfl
  refine goes_opr (v := .slice none 0 0) (o := ops17[0]'(by decide)) (by rfl) (by rfl) (by k_ne) (fun d => ?_) (fun d e he => ?_) (fun d => ?_)
  · show (execOp (Act.eval ⟨T6_, []⟩) _).run _ _ = _
    unfold execOp
    simp [eo6, go_sem, Act.eval, ← Array.getD_eq_getD_getElem?, e12_6]
  · rw [show (execOp (Act.eval ⟨T6_, []⟩) (ops17[0]'(by decide))) = _ from by unfold execOp; rw [eo6]] at he
    simp [eo6, go_sem, Act.eval, ← Array.getD_eq_getD_getElem?, e12_6] at he
  obtain ⟨T7_, hT7_⟩ : ∃ T7_, T7_ = T6_.setIfInBounds 93 (.slice none 0 0) := ⟨_, rfl⟩
  have sT7_ : T7_.size = 101 := by rw [hT7_]; simpa using sT6_
  have e7_7 : T7_.getD 7 undef = .map (some mb) := by rw [hT7_, getD_ne (by decide)]; exact e7_6
  have e88_7 : T7_.getD 88 undef = .int .i64 1 := by rw [hT7_, getD_ne (by decide)]; exact e88_6
  have e89_7 : T7_.getD 89 undef = .int .i64 0 := by rw [hT7_, getD_ne (by decide)]; exact e89_6
  have e14_7 : T7_.getD 14 undef = .int .i64 kk := by rw [hT7_, getD_ne (by decide)]; exact e14_6
  have e93_7 : T7_.getD 93 undef = .slice none 0 0 := by rw [hT7_]; exact getD_same (by rw [sT6_]; decide)
  show Goes _ _ _ _ _ (n + 78) (G (b11.at ⟨T6_.setIfInBounds 93 (.slice none 0 0), []⟩ [.inRegion ops17 [1, 2, 3, 4, 5, 6], .inBlock 3, .code reg18, .inLoop body15, .inBlock 2, .code back19]) _) _
  rw [← hT7_]
  have eo7 : (ops17[1]'(by decide)).op = .move (.tmp 7) := by rfl
  refine goes_opr (v := .map (some mb)) (o := ops17[1]'(by decide)) (by rfl) (by rfl) (by k_ne) (fun d => ?_) (fun d e he => ?_) (fun d => ?_)
  · show (execOp (Act.eval ⟨T7_, []⟩) _).run _ _ = _
    unfold execOp
    simp [eo7, go_sem, Act.eval, ← Array.getD_eq_getD_getElem?, e7_7]
  · rw [show (execOp (Act.eval ⟨T7_, []⟩) (ops17[1]'(by decide))) = _ from by unfold execOp; rw [eo7]] at he
    simp [eo7, go_sem, Act.eval, ← Array.getD_eq_getD_getElem?, e7_7] at he
  obtain ⟨T8_, hT8_⟩ : ∃ T8_, T8_ = T7_.setIfInBounds 94 (.map (some mb)) := ⟨_, rfl⟩
  have sT8_ : T8_.size = 101 := by rw [hT8_]; simpa using sT7_
  have e88_8 : T8_.getD 88 undef = .int .i64 1 := by rw [hT8_, getD_ne (by decide)]; exact e88_7
  have e89_8 : T8_.getD 89 undef = .int .i64 0 := by rw [hT8_, getD_ne (by decide)]; exact e89_7
  have e14_8 : T8_.getD 14 undef = .int .i64 kk := by rw [hT8_, getD_ne (by decide)]; exact e14_7
  have e93_8 : T8_.getD 93 undef = .slice none 0 0 := by rw [hT8_, getD_ne (by decide)]; exact e93_7
  have e94_8 : T8_.getD 94 undef = .map (some mb) := by rw [hT8_]; exact getD_same (by rw [sT7_]; decide)
  show Goes _ _ _ _ _ (n + 77) (G (b11.at ⟨T7_.setIfInBounds 94 (.map (some mb)), []⟩ [.inRegion ops17 [2, 3, 4, 5, 6], .inBlock 3, .code reg18, .inLoop body15, .inBlock 2, .code back19]) _) _
  rw [← hT8_]
  have eo8 : (ops17[2]'(by decide)).op = .move (.tmp 14) := by rfl
  refine goes_opr (v := .int .i64 kk) (o := ops17[2]'(by decide)) (by rfl) (by rfl) (by k_ne) (fun d => ?_) (fun d e he => ?_) (fun d => ?_)
  · show (execOp (Act.eval ⟨T8_, []⟩) _).run _ _ = _
    unfold execOp
    simp [eo8, go_sem, Act.eval, ← Array.getD_eq_getD_getElem?, e14_8]
  · rw [show (execOp (Act.eval ⟨T8_, []⟩) (ops17[2]'(by decide))) = _ from by unfold execOp; rw [eo8]] at he
    simp [eo8, go_sem, Act.eval, ← Array.getD_eq_getD_getElem?, e14_8] at he
  obtain ⟨T9_, hT9_⟩ : ∃ T9_, T9_ = T8_.setIfInBounds 95 (.int .i64 kk) := ⟨_, rfl⟩
  have sT9_ : T9_.size = 101 := by rw [hT9_]; simpa using sT8_
  have e88_9 : T9_.getD 88 undef = .int .i64 1 := by rw [hT9_, getD_ne (by decide)]; exact e88_8
  have e89_9 : T9_.getD 89 undef = .int .i64 0 := by rw [hT9_, getD_ne (by decide)]; exact e89_8
  have e93_9 : T9_.getD 93 undef = .slice none 0 0 := by rw [hT9_, getD_ne (by decide)]; exact e93_8
  have e94_9 : T9_.getD 94 undef = .map (some mb) := by rw [hT9_, getD_ne (by decide)]; exact e94_8
  have e95_9 : T9_.getD 95 undef = .int .i64 kk := by rw [hT9_]; exact getD_same (by rw [sT8_]; decide)
  show Goes _ _ _ _ _ (n + 76) (G (b11.at ⟨T8_.setIfInBounds 95 (.int .i64 kk), []⟩ [.inRegion ops17 [3, 4, 5, 6], .inBlock 3, .code reg18, .inLoop body15, .inBlock 2, .code back19]) _) _
  rw [← hT9_]
  have eo9 : (ops17[3]'(by decide)).op = .lookup 81 (.tmp 94) (.tmp 95) false := by rfl
  refine goes_opr (v := .agg #[.int .i64 x1, .int .i64 x2, .int .i64 x3, .int .i64 x4]) (o := ops17[3]'(by decide)) (by rfl) (by rfl) (by k_ne) (fun d => ?_) (fun d e he => ?_) (fun d => ?_)
  · show (execOp (Act.eval ⟨T9_, []⟩) _).run _ _ = _
    unfold execOp
    simp only [eo9, Act.eval, List.map_toArray, List.map_cons, List.map_nil, e94_9, e95_9]
    exact val_run (lookup_one (t := 81) (k := 3) (e := 53) rfl rfl (hm2 _ d)).1
  · rw [show (execOp (Act.eval ⟨T9_, []⟩) (ops17[3]'(by decide))) = _ from by unfold execOp; rw [eo9]] at he
    simp only [Act.eval, List.map_toArray, List.map_cons, List.map_nil, e94_9, e95_9] at he
    rw [val_ev (lookup_one (t := 81) (k := 3) (e := 53) rfl rfl (hm2 _ d))] at he
    simp at he
    subst he
    exact hE.obj _ _ omb
  obtain ⟨T10_, hT10_⟩ : ∃ T10_, T10_ = T9_.setIfInBounds 96 (.agg #[.int .i64 x1, .int .i64 x2, .int .i64 x3, .int .i64 x4]) := ⟨_, rfl⟩
  have sT10_ : T10_.size = 101 := by rw [hT10_]; simpa using sT9_
  have e88_10 : T10_.getD 88 undef = .int .i64 1 := by rw [hT10_, getD_ne (by decide)]; exact e88_9
  have e89_10 : T10_.getD 89 undef = .int .i64 0 := by rw [hT10_, getD_ne (by decide)]; exact e89_9
  have e93_10 : T10_.getD 93 undef = .slice none 0 0 := by rw [hT10_, getD_ne (by decide)]; exact e93_9
  have e96_10 : T10_.getD 96 undef = .agg #[.int .i64 x1, .int .i64 x2, .int .i64 x3, .int .i64 x4] := by rw [hT10_]; exact getD_same (by rw [sT9_]; decide)
  show Goes _ _ _ _ _ (n + 75) (G (b11.at ⟨T9_.setIfInBounds 96 (.agg #[.int .i64 x1, .int .i64 x2, .int .i64 x3, .int .i64 x4]), []⟩ [.inRegion ops17 [4, 5, 6], .inBlock 3, .code reg18, .inLoop body15, .inBlock 2, .code back19]) _) _
  rw [← hT10_]
  obtain ⟨i0, hi, hz0, hz1, hz2⟩ : ∃ i0, Tryz.prog.info? 53 = some i0 ∧ i0.zero = some (.agg #[.int .i64 0, .int .i64 0, .int .i64 0, .int .i64 0]) ∧ i0.size = 4 ∧ i0.bytes = 32 := ⟨_, rfl, rfl, rfl, rfl⟩
  have hbs := fun w => bs_many (P := Tryz.prog) (t := 47) (e := 53) (parts := #[(0, Value.agg #[.int .i64 x1, .int .i64 x2, .int .i64 x3, .int .i64 x4])]) (cells := #[.int .i64 x1, .int .i64 x2, .int .i64 x3, .int .i64 x4]) (ie := i0) (z := .agg #[.int .i64 0, .int .i64 0, .int .i64 0, .int .i64 0]) (w := w) rfl hi hz0 hz1 (by decide) (by decide) (by have h0 : Array.range 4 = #[0, 1, 2, 3] := rfl; simp [Instr.fill, Value.cells, h0])
  have eo10 : (ops17[4]'(by decide)).op = .buildSlice 47 1 #[(0, .tmp 96)] := by rfl
  refine goes_opn' (v := .slice (some ⟨W.heap.size, 0, none⟩) 1 1) (ob := .cells #[.int .i64 x1, .int .i64 x2, .int .i64 x3, .int .i64 x4] 53) (o := ops17[4]'(by decide)) (by rfl) (by rfl) (by k_ne) (fun d => ?_) (fun d e he => ?_) (fun d => ?_)
  · show (execOp (Act.eval ⟨T10_, []⟩) _).run _ _ = _
    unfold execOp
    simp only [eo10, Act.eval, List.map_toArray, List.map_cons, List.map_nil, e96_10]
    exact (val_run (hbs _).1).trans (by rw [size_after]; rfl)
  · rw [show (execOp (Act.eval ⟨T10_, []⟩) (ops17[4]'(by decide))) = _ from by unfold execOp; rw [eo10]] at he
    simp only [Act.eval, List.map_toArray, List.map_cons, List.map_nil, e96_10] at he
    rw [val_ev (hbs _)] at he
    simp at he
  simp only [List.nil_append]
  obtain ⟨T11_, hT11_⟩ : ∃ T11_, T11_ = T10_.setIfInBounds 97 (.slice (some ⟨W.heap.size, 0, none⟩) 1 1) := ⟨_, rfl⟩
  have sT11_ : T11_.size = 101 := by rw [hT11_]; simpa using sT10_
  have e88_11 : T11_.getD 88 undef = .int .i64 1 := by rw [hT11_, getD_ne (by decide)]; exact e88_10
  have e89_11 : T11_.getD 89 undef = .int .i64 0 := by rw [hT11_, getD_ne (by decide)]; exact e89_10
  have e93_11 : T11_.getD 93 undef = .slice none 0 0 := by rw [hT11_, getD_ne (by decide)]; exact e93_10
  have e97_11 : T11_.getD 97 undef = .slice (some ⟨W.heap.size, 0, none⟩) 1 1 := by rw [hT11_]; exact getD_same (by rw [sT10_]; decide)
  show Goes _ _ _ _ _ (n + 74) (G (b11.at ⟨T10_.setIfInBounds 97 (.slice (some ⟨W.heap.size, 0, none⟩) 1 1), []⟩ [.inRegion ops17 [5, 6], .inBlock 3, .code reg18, .inLoop body15, .inBlock 2, .code back19]) _) _
  rw [← hT11_]
  have hnews : ∀ (L : List Obj) (d : Nat), L[0]? = some (.cells #[.int .i64 x1, .int .i64 x2, .int .i64 x3, .int .i64 x4] 53) → ∀ j u, [Value.int .i64 x1, .int .i64 x2, .int .i64 x3, .int .i64 x4][j]? = some u → ((after W L).at d).cell? ((⟨W.heap.size, 0, none⟩ : Addr).add j) = some u := by
    intro L d hL j u hj
    have hq : j < 4 := (List.getElem?_eq_some_iff.1 hj).1
    match j, hq, hj with
    | 0, _, hj => simp at hj; subst hj; exact after_cell (j := 0) hL rfl
    | 1, _, hj => simp at hj; subst hj; exact after_cell (j := 0) hL rfl
    | 2, _, hj => simp at hj; subst hj; exact after_cell (j := 0) hL rfl
    | 3, _, hj => simp at hj; subst hj; exact after_cell (j := 0) hL rfl
  have hap := fun (L : List Obj) (hL : L[0]? = some (.cells #[.int .i64 x1, .int .i64 x2, .int .i64 x3, .int .i64 x4] 53)) (d : Nat) => run_append_nil (P := Tryz.prog) ((after W L).at d) 47 47 53 i0 (.agg #[.int .i64 0, .int .i64 0, .int .i64 0, .int .i64 0]) rfl hi hz0 ⟨W.heap.size, 0, none⟩ 1 1 [.int .i64 x1, .int .i64 x2, .int .i64 x3, .int .i64 x4] (by rw [hz1]; rfl) (hnews L d hL) (by omega) (by omega) (by rw [hz2]; omega)
  have hev := fun (L : List Obj) (hL : L[0]? = some (.cells #[.int .i64 x1, .int .i64 x2, .int .i64 x3, .int .i64 x4] 53)) (d : Nat) => events_append_where (P := Tryz.prog) ((after W L).at d) 0 47 47 53 i0 (.agg #[.int .i64 0, .int .i64 0, .int .i64 0, .int .i64 0]) 4 32 rfl hi hz0 hz1 hz2 (.slice none 0 0) 0 [] (World.ownsRow_nil _ _ _ _) ⟨W.heap.size, 0, none⟩ 1 1 [.int .i64 x1, .int .i64 x2, .int .i64 x3, .int .i64 x4] rfl (hnews L d hL) (by intro u hu; simp at hu; rcases hu with rfl | rfl | rfl | rfl <;> rfl) (by decide) (by omega)
  refine goes_opx (o := ops17[5]'(by decide)) (by rfl) (by rfl) (by k_ne) (fun d => ?_)
  refine ⟨_, _, append_run (.tmp 93) (.tmp 97) 47 (by rfl) e93_11 e97_11 (hap _ rfl d), fun e he => ?_, ?_⟩
  · rw [events_append_op (o := ops17[5]'(by decide)) (a := ⟨T11_, []⟩) (.tmp 93) (.tmp 97) 47 (by rfl) e93_11 e97_11] at he
    rcases hev _ rfl d e he with ⟨ad, h2, h3⟩ | ⟨m, rfl, hn⟩
    · obtain ⟨l, x, y⟩ := e
      simp only at h2 h3
      subst h2
      rcases h3 with ⟨rfl, h4⟩ | h4
      · exact hE.cell _ _ _ (by rw [h4]; exact onew 0 (by decide))
      · simp [Value.ownBlock] at h4
    · unfold Neutral at hn
      subst hn
      exact hE.room
  clear hap hev hnews
  generalize hcap : grownCap _ _ _ _ = cap2
  clear hcap
  rw [show ((after W _).at d).drew = (after W _).at (d + 1) from rfl, alloc_after]
  simp only [size_after, List.length_cons, List.length_nil, Nat.reduceAdd, Nat.zero_add, List.cons_append, List.nil_append]
  obtain ⟨T12_, hT12_⟩ : ∃ T12_, T12_ = T11_.setIfInBounds 98 (.slice (some ⟨W.heap.size + 1, 0, none⟩) 1 cap2) := ⟨_, rfl⟩
  have sT12_ : T12_.size = 101 := by rw [hT12_]; simpa using sT11_
  have e88_12 : T12_.getD 88 undef = .int .i64 1 := by rw [hT12_, getD_ne (by decide)]; exact e88_11
  have e89_12 : T12_.getD 89 undef = .int .i64 0 := by rw [hT12_, getD_ne (by decide)]; exact e89_11
  have e98_12 : T12_.getD 98 undef = .slice (some ⟨W.heap.size + 1, 0, none⟩) 1 cap2 := by rw [hT12_]; exact getD_same (by rw [sT11_]; decide)
  show Goes _ _ _ _ _ (n + 73) (G (b11.at ⟨T11_.setIfInBounds 98 (.slice (some ⟨W.heap.size + 1, 0, none⟩) 1 cap2), []⟩ [.inRegion ops17 [6], .inBlock 3, .code reg18, .inLoop body15, .inBlock 2, .code back19]) _) _
  rw [← hT12_]
  have eo12 : (ops17[6]'(by decide)).op = .assign (.tmp 98) := by rfl
  refine goes_opr (v := .slice (some ⟨W.heap.size + 1, 0, none⟩) 1 cap2) (o := ops17[6]'(by decide)) (by rfl) (by rfl) (by k_ne) (fun d => ?_) (fun d e he => ?_) (fun d => ?_)
  · show (execOp (Act.eval ⟨T12_, []⟩) _).run _ _ = _
    unfold execOp
    simp [eo12, go_sem, Act.eval, ← Array.getD_eq_getD_getElem?, e98_12]
  · rw [show (execOp (Act.eval ⟨T12_, []⟩) (ops17[6]'(by decide))) = _ from by unfold execOp; rw [eo12]] at he
    simp [eo12, go_sem, Act.eval, ← Array.getD_eq_getD_getElem?, e98_12] at he
  obtain ⟨T13_, hT13_⟩ : ∃ T13_, T13_ = T12_.setIfInBounds 12 (.slice (some ⟨W.heap.size + 1, 0, none⟩) 1 cap2) := ⟨_, rfl⟩
  have sT13_ : T13_.size = 101 := by rw [hT13_]; simpa using sT12_
  have e88_13 : T13_.getD 88 undef = .int .i64 1 := by rw [hT13_, getD_ne (by decide)]; exact e88_12
  have e89_13 : T13_.getD 89 undef = .int .i64 0 := by rw [hT13_, getD_ne (by decide)]; exact e89_12
  have e12_13 : T13_.getD 12 undef = .slice (some ⟨W.heap.size + 1, 0, none⟩) 1 cap2 := by rw [hT13_]; exact getD_same (by rw [sT12_]; decide)
  show Goes _ _ _ _ _ (n + 72) (G (b11.at ⟨T12_.setIfInBounds 12 (.slice (some ⟨W.heap.size + 1, 0, none⟩) 1 cap2), []⟩ [.inRegion ops17 [], .inBlock 3, .code reg18, .inLoop body15, .inBlock 2, .code back19]) _) _
  rw [← hT13_]
  refine goes_same rfl (fun w => stepG_region_end) (fun d => ?_)
  refine goes_same rfl (fun w => stepG_inBlock) (fun d => ?_)
  refine goes_same rfl (fun w => stepG_region) (fun d => ?_)
  have hwr : IntKind.i64.wrap 1 = 1 := by decide
  have eo13 : (ops18[0]'(by decide)).op = .binOp .add 3 (.tmp 89) (.const (.int .i64 1)) 3 := by rfl
  refine goes_opr (v := .int .i64 1) (o := ops18[0]'(by decide)) (by rfl) (by rfl) (by k_ne) (fun d => ?_) (fun d e he => ?_) (fun d => ?_)
  · show (execOp (Act.eval ⟨T13_, []⟩) _).run _ _ = _
    unfold execOp
    simp [eo13, go_sem, Act.eval, ← Array.getD_eq_getD_getElem?, e89_13, hwr]
  · rw [show (execOp (Act.eval ⟨T13_, []⟩) (ops18[0]'(by decide))) = _ from by unfold execOp; rw [eo13]] at he
    simp [eo13, go_sem, Act.eval, ← Array.getD_eq_getD_getElem?, e89_13, hwr] at he
  obtain ⟨T14_, hT14_⟩ : ∃ T14_, T14_ = T13_.setIfInBounds 99 (.int .i64 1) := ⟨_, rfl⟩
  have sT14_ : T14_.size = 101 := by rw [hT14_]; simpa using sT13_
  have e12_14 : T14_.getD 12 undef = .slice (some ⟨W.heap.size + 1, 0, none⟩) 1 cap2 := by rw [hT14_, getD_ne (by decide)]; exact e12_13
  have e88_14 : T14_.getD 88 undef = .int .i64 1 := by rw [hT14_, getD_ne (by decide)]; exact e88_13
  have e99_14 : T14_.getD 99 undef = .int .i64 1 := by rw [hT14_]; exact getD_same (by rw [sT13_]; decide)
  show Goes _ _ _ _ _ (n + 68) (G (b11.at ⟨T13_.setIfInBounds 99 (.int .i64 1), []⟩ [.inRegion ops18 [1], .inLoop body15, .inBlock 2, .code back19]) _) _
  rw [← hT14_]
  have eo14 : (ops18[1]'(by decide)).op = .move (.tmp 99) := by rfl
  refine goes_opr (v := .int .i64 1) (o := ops18[1]'(by decide)) (by rfl) (by rfl) (by k_ne) (fun d => ?_) (fun d e he => ?_) (fun d => ?_)
  · show (execOp (Act.eval ⟨T14_, []⟩) _).run _ _ = _
    unfold execOp
    simp [eo14, go_sem, Act.eval, ← Array.getD_eq_getD_getElem?, e99_14]
  · rw [show (execOp (Act.eval ⟨T14_, []⟩) (ops18[1]'(by decide))) = _ from by unfold execOp; rw [eo14]] at he
    simp [eo14, go_sem, Act.eval, ← Array.getD_eq_getD_getElem?, e99_14] at he
  obtain ⟨T15_, hT15_⟩ : ∃ T15_, T15_ = T14_.setIfInBounds 89 (.int .i64 1) := ⟨_, rfl⟩
  have sT15_ : T15_.size = 101 := by rw [hT15_]; simpa using sT14_
  have e12_15 : T15_.getD 12 undef = .slice (some ⟨W.heap.size + 1, 0, none⟩) 1 cap2 := by rw [hT15_, getD_ne (by decide)]; exact e12_14
  have e88_15 : T15_.getD 88 undef = .int .i64 1 := by rw [hT15_, getD_ne (by decide)]; exact e88_14
  have e89_15 : T15_.getD 89 undef = .int .i64 1 := by rw [hT15_]; exact getD_same (by rw [sT14_]; decide)
  show Goes _ _ _ _ _ (n + 67) (G (b11.at ⟨T14_.setIfInBounds 89 (.int .i64 1), []⟩ [.inRegion ops18 [], .inLoop body15, .inBlock 2, .code back19]) _) _
  rw [← hT15_]
  refine goes_same rfl (fun w => stepG_region_end) (fun d => ?_)
  refine goes_same rfl (fun w => stepG_inLoop) (fun d => ?_)
  refine goes_same rfl (fun w => stepG_seq) (fun d => ?_)
  refine goes_same rfl (fun w => stepG_region) (fun d => ?_)
  have eo15 : (ops15[0]'(by decide)).op = .binOp .lss 3 (.tmp 89) (.tmp 88) 3 := by rfl
  refine goes_opr (v := .bool false) (o := ops15[0]'(by decide)) (by rfl) (by rfl) (by k_ne) (fun d => ?_) (fun d e he => ?_) (fun d => ?_)
  · show (execOp (Act.eval ⟨T15_, []⟩) _).run _ _ = _
    unfold execOp
    simp [eo15, go_sem, Act.eval, ← Array.getD_eq_getD_getElem?, e89_15, e88_15]
  · rw [show (execOp (Act.eval ⟨T15_, []⟩) (ops15[0]'(by decide))) = _ from by unfold execOp; rw [eo15]] at he
    simp [eo15, go_sem, Act.eval, ← Array.getD_eq_getD_getElem?, e89_15, e88_15] at he
  obtain ⟨T16_, hT16_⟩ : ∃ T16_, T16_ = T15_.setIfInBounds 90 (.bool false) := ⟨_, rfl⟩
  have sT16_ : T16_.size = 101 := by rw [hT16_]; simpa using sT15_
  have e12_16 : T16_.getD 12 undef = .slice (some ⟨W.heap.size + 1, 0, none⟩) 1 cap2 := by rw [hT16_, getD_ne (by decide)]; exact e12_15
  have e90_16 : T16_.getD 90 undef = .bool false := by rw [hT16_]; exact getD_same (by rw [sT15_]; decide)
  show Goes _ _ _ _ _ (n + 62) (G (b11.at ⟨T15_.setIfInBounds 90 (.bool false), []⟩ [.inRegion ops15 [], .code rest15, .inLoop body15, .inBlock 2, .code back19]) _) _
  rw [← hT16_]
  refine goes_same rfl (fun w => stepG_region_end) (fun d => ?_)
  refine goes_same rfl (fun w => stepG_seq) (fun d => ?_)
  refine goes_same rfl (fun w => stepG_cond (t := false) e90_16) (fun d => ?_)
  refine goes_same rfl (fun w => stepG_exit (by rfl)) (fun d => ?_)
  refine goes_same rfl (fun w => stepG_seq) (fun d => ?_)
  refine goes_same rfl (fun w => stepG_region) (fun d => ?_)
  have eo16 : (ops19[0]'(by decide)).op = .move (.tmp 12) := by rfl
  refine goes_opr (v := .slice (some ⟨W.heap.size + 1, 0, none⟩) 1 cap2) (o := ops19[0]'(by decide)) (by rfl) (by rfl) (by k_ne) (fun d => ?_) (fun d e he => ?_) (fun d => ?_)
  · show (execOp (Act.eval ⟨T16_, []⟩) _).run _ _ = _
    unfold execOp
    simp [eo16, go_sem, Act.eval, ← Array.getD_eq_getD_getElem?, e12_16]
  · rw [show (execOp (Act.eval ⟨T16_, []⟩) (ops19[0]'(by decide))) = _ from by unfold execOp; rw [eo16]] at he
    simp [eo16, go_sem, Act.eval, ← Array.getD_eq_getD_getElem?, e12_16] at he
  obtain ⟨T17_, hT17_⟩ : ∃ T17_, T17_ = T16_.setIfInBounds 100 (.slice (some ⟨W.heap.size + 1, 0, none⟩) 1 cap2) := ⟨_, rfl⟩
  have sT17_ : T17_.size = 101 := by rw [hT17_]; simpa using sT16_
  have e100_17 : T17_.getD 100 undef = .slice (some ⟨W.heap.size + 1, 0, none⟩) 1 cap2 := by rw [hT17_]; exact getD_same (by rw [sT16_]; decide)
  show Goes _ _ _ _ _ (n + 55) (G (b11.at ⟨T16_.setIfInBounds 100 (.slice (some ⟨W.heap.size + 1, 0, none⟩) 1 cap2), []⟩ [.inRegion ops19 [1, 2], .code .ret]) _) _
  rw [← hT17_]
  have eo17 : (ops19[1]'(by decide)).op = .assign (.tmp 100) := by rfl
  refine goes_opr (v := .slice (some ⟨W.heap.size + 1, 0, none⟩) 1 cap2) (o := ops19[1]'(by decide)) (by rfl) (by rfl) (by k_ne) (fun d => ?_) (fun d e he => ?_) (fun d => ?_)
  · show (execOp (Act.eval ⟨T17_, []⟩) _).run _ _ = _
    unfold execOp
    simp [eo17, go_sem, Act.eval, ← Array.getD_eq_getD_getElem?, e100_17]
  · rw [show (execOp (Act.eval ⟨T17_, []⟩) (ops19[1]'(by decide))) = _ from by unfold execOp; rw [eo17]] at he
    simp [eo17, go_sem, Act.eval, ← Array.getD_eq_getD_getElem?, e100_17] at he
  obtain ⟨T18_, hT18_⟩ : ∃ T18_, T18_ = T17_.setIfInBounds 4 (.slice (some ⟨W.heap.size + 1, 0, none⟩) 1 cap2) := ⟨_, rfl⟩
  have sT18_ : T18_.size = 101 := by rw [hT18_]; simpa using sT17_
  have e4_18 : T18_.getD 4 undef = .slice (some ⟨W.heap.size + 1, 0, none⟩) 1 cap2 := by rw [hT18_]; exact getD_same (by rw [sT17_]; decide)
  show Goes _ _ _ _ _ (n + 54) (G (b11.at ⟨T17_.setIfInBounds 4 (.slice (some ⟨W.heap.size + 1, 0, none⟩) 1 cap2), []⟩ [.inRegion ops19 [2], .code .ret]) _) _
  rw [← hT18_]
  have eo18 : (ops19[2]'(by decide)).op = .assign (.const .nilIface) := by rfl
  refine goes_opr (v := .nilIface) (o := ops19[2]'(by decide)) (by rfl) (by rfl) (by k_ne) (fun d => ?_) (fun d e he => ?_) (fun d => ?_)
  · show (execOp (Act.eval ⟨T18_, []⟩) _).run _ _ = _
    unfold execOp
    simp [eo18, go_sem, Act.eval, ← Array.getD_eq_getD_getElem?]
  · rw [show (execOp (Act.eval ⟨T18_, []⟩) (ops19[2]'(by decide))) = _ from by unfold execOp; rw [eo18]] at he
    simp [eo18, go_sem, Act.eval, ← Array.getD_eq_getD_getElem?] at he
  obtain ⟨T19_, hT19_⟩ : ∃ T19_, T19_ = T18_.setIfInBounds 5 (.nilIface) := ⟨_, rfl⟩
  have e4_19 : T19_.getD 4 undef = .slice (some ⟨W.heap.size + 1, 0, none⟩) 1 cap2 := by rw [hT19_, getD_ne (by decide)]; exact e4_18
  have e5_19 : T19_.getD 5 undef = .nilIface := by rw [hT19_]; exact getD_same (by rw [sT18_]; decide)
  show Goes _ _ _ _ _ (n + 53) (G (b11.at ⟨T18_.setIfInBounds 5 (.nilIface), []⟩ [.inRegion ops19 [], .code .ret]) _) _
  rw [← hT19_]
  refine goes_same rfl (fun w => stepG_region_end) (fun d => ?_)
  refine goes_same rfl (fun w => stepG_ret') (fun d => ?_)
  refine Goes.step rfl fun w1 h1 => ?_
  obtain ⟨d2, rfl⟩ := h1
  refine goes_leave2 (t := 4) (u := 5) rfl rfl Tryz.func11 (by rfl) ⟨fun e he => by simp at he, ?_⟩
  simp only [e4_19, e5_19, at_at]
  refine Goes.mono (hk d2 _ cap2 ?_ ?_) (by omega)
  · rfl
  · rfl
end
end Pool
end Go.Proofs.YtdkpbobglogmoaaGreat
namespace Go.Proofs.YtdkpbobglogmoaaGreat
open Go Go.Conc Go.RowKit Go.Conc.Lib
namespace Pool
open Ren (Loc.blk SaidAll Bes)
section
variable {Shun : Loc → Prop} {B : Nat} {t t' : Trace}
theorem low_blk {l : Loc} {b : Nat} (h : l.low B) (hb : Loc.blk l = some b) : b < B := by
  cases l with
  | cell a => cases hb; exact h
  | obj r => cases hb; exact h
  | _ => cases hb
theorem past_low (h : Past Shun B t) {i : Nat} {a : Touch} {b : Nat} (hi : touchAt t i = some a) (hb : Loc.blk a.loc = some b) : b < B := by
  obtain ⟨op, ho, hx⟩ := touch_of hi
  have hl := h.seen op (Array.mem_of_getElem? ho)
  cases hact : op.act with
  | access e =>
    rw [hact] at hx hl
    simp only [MemAct.touch?, Option.some.injEq] at hx
    subst hx
    exact low_blk (l := e.loc) hl hb
  | mark m =>
    rw [hact] at hx hl
    cases m <;> simp only [MemAct.touch?, Option.some.injEq, reduceCtorEq] at hx
    · subst hx; exact low_blk (l := .cell _) hl hb
    · subst hx; exact low_blk (l := .cell _) hl hb
  | _ => rw [hact] at hx; cases hx
theorem act_mem {i : Nat} {x : MemAct} (h : t.act? i = some x) : ∃ op ∈ t, op.act = x := by
  unfold Trace.act? at h
  obtain ⟨op, ho, rfl⟩ := Option.map_eq_some_iff.1 h
  exact ⟨op, Array.mem_of_getElem? ho, rfl⟩
theorem past_norel (h : Past Shun B t) {a : Addr} (ha : B ≤ a.block) : NoRelease a t := fun i e => by
  obtain ⟨op, ho, hx⟩ := act_mem e
  have hl := h.seen op ho
  rw [hx] at hl
  exact absurd (show a.block < B from hl) (Nat.not_lt.2 ha)
def EvOk (Ok : Nat → Prop) (e : Event) : Prop := (∃ b x, e = ⟨.obj b, x, false⟩ ∧ Ok b) ∨ (∃ (a : Addr) (x y : Bool), e = ⟨.cell a, x, y⟩ ∧ Ok a.block) ∨ e = ⟨.mark .noRoom, false, true⟩
theorem lets_ok (Ok : Nat → Prop) : Lets (EvOk Ok) Ok := ⟨fun b x h => .inl ⟨b, x, rfl, h⟩, fun a x y h => .inr (.inl ⟨a, x, y, rfl, h⟩), .inr (.inr rfl)⟩
theorem evOk_touch {Ok : Nat → Prop} {e : Event} (h : EvOk Ok e) {x : Touch} (hx : (MemAct.ofEvent e).touch? = some x) : ∃ b, Loc.blk x.loc = some b ∧ Ok b := by
  rcases h with ⟨b, y, rfl, hb⟩ | ⟨a, y, z, rfl, hb⟩ | rfl
  · simp only [MemAct.ofEvent, MemAct.touch?, Option.some.injEq] at hx
    subst hx
    exact ⟨b, rfl, hb⟩
  · simp only [MemAct.ofEvent, MemAct.touch?, Option.some.injEq] at hx
    subst hx
    exact ⟨_, rfl, hb⟩
  · cases hx
theorem evOk_evL {Ok : Nat → Prop} (h : ∀ b, Ok b → b < B ∧ ∀ l, Shun l → Loc.blk l ≠ some b) : ∀ e, EvOk Ok e → EvL Shun B e := fun e he => by
  refine ⟨fun x hx hs => ?_, ?_, ?_, ?_⟩
  · obtain ⟨b, h1, h2⟩ := evOk_touch he hx
    exact absurd h1 ((h b h2).2 _ hs)
  · rcases he with ⟨b, y, rfl, hb⟩ | ⟨a, y, z, rfl, hb⟩ | rfl <;> simp
  · rcases he with ⟨b, y, rfl, hb⟩ | ⟨a, y, z, rfl, hb⟩ | rfl <;> simp
  · rcases he with ⟨b, y, rfl, hb⟩ | ⟨a, y, z, rfl, hb⟩ | rfl
    · have := (h b hb).1
      simpa [MemAct.ofEvent, MemAct.low, Loc.low] using this
    · have := (h _ hb).1
      simpa [MemAct.ofEvent, MemAct.low, Loc.low] using this
    · trivial
theorem said_touch {Ok : Nat → Prop} (h : SaidAll (EvOk Ok) t t') {i : Nat} {a : Touch} {b : Nat} (hi : touchAt t' i = some a) (hb : Loc.blk a.loc = some b) : (∃ j, touchAt t j = some a) ∨ Ok b := by
  obtain ⟨op, ho, hx⟩ := touch_of hi
  rcases h op (Array.mem_of_getElem? ho) with h1 | ⟨e, he, h1⟩ | ⟨e, he, h1⟩
  · obtain ⟨j, hj⟩ := Array.getElem?_of_mem h1
    exact .inl ⟨j, by unfold touchAt Trace.act?; rw [hj]; exact hx⟩
  · rw [h1] at hx
    obtain ⟨b', h2, h3⟩ := evOk_touch he hx
    rw [hb] at h2
    cases h2
    exact .inr h3
  · rw [h1, touch_mute he] at hx
    cases hx
theorem said_norel {Ok : Nat → Prop} (h : SaidAll (EvOk Ok) t t') {a : Addr} (hn : NoRelease a t) : NoRelease a t' := fun i e => by
  obtain ⟨op, ho, hx⟩ := act_mem e
  rcases h op ho with h1 | ⟨e2, he, h1⟩ | ⟨e2, he, h1⟩
  · obtain ⟨j, hj⟩ := Array.getElem?_of_mem h1
    exact hn j (by unfold Trace.act?; rw [hj]; exact congrArg some hx)
  · rw [h1] at hx
    have := Go.ConcR.loc_of_ofEvent hx
    rcases he with ⟨b, y, rfl, hb⟩ | ⟨c, y, z, rfl, hb⟩ | rfl
    · cases this
    · cases this
    · cases this
  · rw [h1] at hx
    have := Go.ConcR.loc_of_ofEvent hx
    obtain ⟨l, x, y⟩ := e2
    simp only at this
    subst this
    simp [Event.mute] at he
end
section
variable {P : Program} {Shun : Loc → Prop} {B : Nat}
theorem go_on {Ok : Nat → Prop} (hOk : ∀ b, Ok b → b < B ∧ ∀ l, Shun l → Loc.blk l ≠ some b) {Stop : Goroutine → World → Prop} {n : Nat} {gs : Array Goroutine} {g : Goroutine} {w : World} {sl : Option (Nat × Nat)} {t : Trace}
    (hb : Bes P Shun gs g w t) (hB : w.heap.size ≤ B) (hG : Goes P true Go.Conc.AtRel (DE (EvOk Ok)) Stop n g w) :
    ∃ N gs' sl' t' g' w', runNT P N (crowd gs w sl) t = (.next (crowd gs' w' sl'), t') ∧ gs'.size = gs.size ∧ gs'[0]? = some g' ∧ (∃ q, Leavers P t' gs' q) ∧ Past Shun B t' ∧ Stop g' w' ∧ SaidAll (EvOk Ok) t t' :=
  Ren.walk_said (evOk_evL hOk) n hb.at0 hb.old (hb.past.mono hB) hG
theorem run_then {N K : Nat} {m m1 m2 : Machine} {t t1 t2 : Trace} (h : runNT P N m t = (.next m1, t1)) (k : runNT P K m1 t1 = (.next m2, t2)) : runNT P (N + K) m t = (.next m2, t2) := by
  rw [runNT_add, h]
  exact k
end
section
variable {P : Program} {E : Event → Prop} {Stop : Goroutine → World → Prop} {b : Frame} {a : Act} {ops : Array Oper} {i : Nat} {rest : List Nat} {k : List Item} {cs : List Frame} {n : Nat} {W : World} {o : Oper}
theorem goes_enterF {f : FuncId} {fn : Func} {args : Array Operand} {ats : Array TypeId} {vs : Array Value} (ho : ops[i]? = some o) (hw : Region.wanted o (yielded ops a.tmps) = true) (hk : b.kind ≠ .early)
    (hop : o.op = .call { callee := .value (.func f), args, argTypes := ats }) (hf : P.funcs[f]? = some fn) (hname : (fn.name == "runtime.NumGoroutine") = false) (hb : fn.body.isSome = true) (hv : args.map a.eval = vs)
    (k' : ∀ d, Goes P true Go.Conc.AtRel (DE E) Stop n (G (Frame.enter P f vs .normal) (b.at a (.inRegion ops (i :: rest) :: k) :: cs)) (W.at d)) :
    Goes P true Go.Conc.AtRel (DE E) Stop (n + 1) (G (b.at a (.inRegion ops (i :: rest) :: k)) cs) W := by
  obtain ⟨c, hc⟩ := Option.isSome_iff_exists.1 hb
  refine goes_enter ho hw hk hop hf hname hc (fun d => ?_)
  have := k' d
  rw [← hv, enter_at _ hf hc] at this
  simpa using this
end
end Pool
end Go.Proofs.YtdkpbobglogmoaaGreat
namespace Go.Proofs.YtdkpbobglogmoaaGreat
open Go Go.Conc Go.RowKit Go.Conc.Lib
open Go.ConcX.Gen (at_at)
namespace Pool
noncomputable def c3 : Code := Tryz.f3.body.getD .skip
noncomputable def c3a : Code := match c3 with | .seq x _ => x | _ => .skip
noncomputable def c3b : Code := match c3 with | .seq _ x => x | _ => .skip
noncomputable def oc3a : Array Oper := match c3a with | .region _ ops _ => ops | _ => #[]
noncomputable def c3ba : Code := match c3b with | .seq x _ => x | _ => .skip
noncomputable def c3bb : Code := match c3b with | .seq _ x => x | _ => .skip
noncomputable def oc3ba : Array Oper := match c3ba with | .region _ ops _ => ops | _ => #[]
noncomputable def c4 : Code := Tryz.f4.body.getD .skip
noncomputable def c4a : Code := match c4 with | .seq x _ => x | _ => .skip
noncomputable def c4b : Code := match c4 with | .seq _ x => x | _ => .skip
noncomputable def oc4a : Array Oper := match c4a with | .region _ ops _ => ops | _ => #[]
noncomputable def c4ba : Code := match c4b with | .seq x _ => x | _ => .skip
noncomputable def c4bb : Code := match c4b with | .seq _ x => x | _ => .skip
noncomputable def oc4ba : Array Oper := match c4ba with | .region _ ops _ => ops | _ => #[]
noncomputable def c4bba : Code := match c4bb with | .seq x _ => x | _ => .skip
noncomputable def c4bbb : Code := match c4bb with | .seq _ x => x | _ => .skip
noncomputable def oc4bba : Array Oper := match c4bba with | .region _ ops _ => ops | _ => #[]
noncomputable def c11 : Code := Tryz.f11.body.getD .skip
noncomputable def c11a : Code := match c11 with | .seq x _ => x | _ => .skip
noncomputable def c11b : Code := match c11 with | .seq _ x => x | _ => .skip
noncomputable def oc11a : Array Oper := match c11a with | .region _ ops _ => ops | _ => #[]
noncomputable def c11ba : Code := match c11b with | .seq x _ => x | _ => .skip
noncomputable def c11bb : Code := match c11b with | .seq _ x => x | _ => .skip
noncomputable def c11baa : Code := match c11ba with | .seq x _ => x | _ => .skip
noncomputable def c11bab : Code := match c11ba with | .seq _ x => x | _ => .skip
noncomputable def oc11baa : Array Oper := match c11baa with | .region _ ops _ => ops | _ => #[]
noncomputable def c25 : Code := Tryz.f25.body.getD .skip
noncomputable def c25a : Code := match c25 with | .seq x _ => x | _ => .skip
noncomputable def c25b : Code := match c25 with | .seq _ x => x | _ => .skip
noncomputable def oc25a : Array Oper := match c25a with | .region _ ops _ => ops | _ => #[]
noncomputable def c25ba : Code := match c25b with | .seq x _ => x | _ => .skip
noncomputable def c25bb : Code := match c25b with | .seq _ x => x | _ => .skip
noncomputable def c25baa : Code := match c25ba with | .seq x _ => x | _ => .skip
noncomputable def c25bab : Code := match c25ba with | .seq _ x => x | _ => .skip
noncomputable def oc25baa : Array Oper := match c25baa with | .region _ ops _ => ops | _ => #[]
noncomputable def c25babb : Code := match c25bab with | .cond _ _ x => x | _ => .skip
noncomputable def c25bba : Code := match c25bb with | .seq x _ => x | _ => .skip
noncomputable def c25bbb : Code := match c25bb with | .seq _ x => x | _ => .skip
noncomputable def c25bbaa : Code := match c25bba with | .seq x _ => x | _ => .skip
noncomputable def c25bbab : Code := match c25bba with | .seq _ x => x | _ => .skip
noncomputable def oc25bbaa : Array Oper := match c25bbaa with | .region _ ops _ => ops | _ => #[]
noncomputable def c25bbabb : Code := match c25bbab with | .cond _ _ x => x | _ => .skip
noncomputable def c25bbba : Code := match c25bbb with | .seq x _ => x | _ => .skip
noncomputable def c25bbbb : Code := match c25bbb with | .seq _ x => x | _ => .skip
noncomputable def oc25bbba : Array Oper := match c25bbba with | .region _ ops _ => ops | _ => #[]
noncomputable def c11baba : Code := match c11bab with | .seq x _ => x | _ => .skip
noncomputable def c11babb : Code := match c11bab with | .seq _ x => x | _ => .skip
noncomputable def oc11baba : Array Oper := match c11baba with | .region _ ops _ => ops | _ => #[]
noncomputable def c11babbb : Code := match c11babb with | .cond _ _ x => x | _ => .skip
noncomputable def c11bba : Code := match c11bb with | .seq x _ => x | _ => .skip
noncomputable def c11bbb : Code := match c11bb with | .seq _ x => x | _ => .skip
noncomputable def oc11bba : Array Oper := match c11bba with | .region _ ops _ => ops | _ => #[]
noncomputable def c11bbba : Code := match c11bbb with | .seq x _ => x | _ => .skip
noncomputable def c11bbbb : Code := match c11bbb with | .seq _ x => x | _ => .skip
noncomputable def c11bbbaa : Code := match c11bbba with | .seq x _ => x | _ => .skip
noncomputable def c11bbbab : Code := match c11bbba with | .seq _ x => x | _ => .skip
noncomputable def oc11bbbaa : Array Oper := match c11bbbaa with | .region _ ops _ => ops | _ => #[]
noncomputable def c26 : Code := Tryz.f26.body.getD .skip
noncomputable def c26a : Code := match c26 with | .seq x _ => x | _ => .skip
noncomputable def c26b : Code := match c26 with | .seq _ x => x | _ => .skip
noncomputable def oc26a : Array Oper := match c26a with | .region _ ops _ => ops | _ => #[]
noncomputable def c26ba : Code := match c26b with | .seq x _ => x | _ => .skip
noncomputable def c26bb : Code := match c26b with | .seq _ x => x | _ => .skip
noncomputable def oc26ba : Array Oper := match c26ba with | .region _ ops _ => ops | _ => #[]
noncomputable def c26bba : Code := match c26bb with | .seq x _ => x | _ => .skip
noncomputable def c26bbb : Code := match c26bb with | .seq _ x => x | _ => .skip
noncomputable def oc26bba : Array Oper := match c26bba with | .region _ ops _ => ops | _ => #[]
noncomputable def c26bbba : Code := match c26bbb with | .seq x _ => x | _ => .skip
noncomputable def c26bbbb : Code := match c26bbb with | .seq _ x => x | _ => .skip
noncomputable def oc26bbba : Array Oper := match c26bbba with | .region _ ops _ => ops | _ => #[]
noncomputable def c26bbbba : Code := match c26bbbb with | .seq x _ => x | _ => .skip
noncomputable def c26bbbbb : Code := match c26bbbb with | .seq _ x => x | _ => .skip
noncomputable def c26bbbbaa : Code := match c26bbbba with | .seq x _ => x | _ => .skip
noncomputable def c26bbbbab : Code := match c26bbbba with | .seq _ x => x | _ => .skip
noncomputable def oc26bbbbaa : Array Oper := match c26bbbbaa with | .region _ ops _ => ops | _ => #[]
noncomputable def c26bbbbaba : Code := match c26bbbbab with | .block _ x => x | _ => .skip
noncomputable def c26bbbbabaa : Code := match c26bbbbaba with | .loop x => x | _ => .skip
noncomputable def c4bbba : Code := match c4bbb with | .seq x _ => x | _ => .skip
noncomputable def c4bbbb : Code := match c4bbb with | .seq _ x => x | _ => .skip
noncomputable def oc4bbba : Array Oper := match c4bbba with | .region _ ops _ => ops | _ => #[]
noncomputable def c4bbbba : Code := match c4bbbb with | .seq x _ => x | _ => .skip
noncomputable def c4bbbbb : Code := match c4bbbb with | .seq _ x => x | _ => .skip
noncomputable def oc4bbbba : Array Oper := match c4bbbba with | .region _ ops _ => ops | _ => #[]
theorem want_of {ops : Array Oper} {T : Array Value} {o : Oper} {j s : Nat} {b : Bool} (ho : o.guard = some (j, b)) (hd : (ops[j]?).bind (·.dst) = some s) (hs : s < T.size) (h : T.getD s undef = .bool b) : Region.wanted o (yielded ops T) = true := by
  unfold Region.wanted yielded
  rw [ho]
  have h2 : T[s]? = some (.bool b) := by
    rw [Array.getElem?_eq_getElem hs]
    rw [Array.getD_eq_getD_getElem?, Array.getElem?_eq_getElem hs] at h
    simpa using h
  simp [hd, h2]
section
variable {P : Program} {E : Event → Prop} {Stop : Goroutine → World → Prop} {b : Frame} {a : Act} {ops : Array Oper} {i : Nat} {rest : List Nat} {k : List Item} {cs : List Frame} {n : Nat} {W : World} {L : List Obj} {d₀ : Nat} {o : Oper}
theorem goes_ops {j q : Nat} {c : Array Value} {e : TypeId} {v : Value} (hL : L[j]? = some (.cells c e (0, 0))) (ho : ops[i]? = some o) (hw : Region.wanted o (yielded ops a.tmps) = true) (hk : b.kind ≠ .early)
    (hr : ∀ d, (execOp a.eval o).run P ((after W L).at d) = .ok .skip (((after W L).at d).setCell ⟨W.heap.size + j, q, none⟩ v))
    (he : ∀ d, ∀ e ∈ (execOp a.eval o).events P ((after W L).at d) #[], E e) (k' : ∀ d, Goes P true Go.Conc.AtRel (DE E) Stop n (G (b.at (a.put o.dst undef) (.inRegion ops rest :: k)) cs) ((after W (L.set j (.cells (c.setIfInBounds q v) e))).at d)) : Goes P true Go.Conc.AtRel (DE E) Stop (n + 1) (G (b.at a (.inRegion ops (i :: rest) :: k)) cs) ((after W L).at d₀) :=
  goes_opn (W := (after W L).at d₀) (W' := after W (L.set j (.cells (c.setIfInBounds q v) e))) ho hw hk (fun d => (hr d).trans (by rw [cells_after hL])) he k'
end
@[go_sem] theorem events_equal_nils (w : World) (es : Array Event) : (Op.equal 28 .nilIface .nilIface).events Tryz.prog w es = es := by
  obtain ⟨ms, hu⟩ : ∃ ms, Tryz.prog.underlying 28 = some (.interface ms) := ⟨_, Tryz.underlying28⟩
  show (Op.equalIn (9999 + 1) _ _ _).events _ _ _ = _
  rw [Op.equalIn]
  simp [run_underlying hu]
@[go_sem] theorem events_neq_nils (w : World) (es : Array Event) : (binOp .neq 28 .nilIface .nilIface).events Tryz.prog w es = es := by simp [binOp, go_sem]
@[go_sem] theorem events_eql_nils (w : World) (es : Array Event) : (binOp .eql 28 .nilIface .nilIface).events Tryz.prog w es = es := by simp [binOp, go_sem]
section
variable {P : Program} {E : Event → Prop} {Stop : Goroutine → World → Prop} {b : Frame} {a : Act} {ops : Array Oper} {i : Nat} {rest : List Nat} {k : List Item} {cs : List Frame} {n : Nat} {W : World} {L : List Obj} {d₀ : Nat} {o : Oper}
theorem goes_mv {x : Operand} {v : Value} {s : Nat} {T : Array Value} (ho : ops[i]? = some o) (hw : Region.wanted o (yielded ops T) = true) (hk : b.kind ≠ .early) (hop : o.op = .move x ∨ o.op = .assign x) (hd : o.dst = some s) (hx : Act.eval ⟨T, []⟩ x = v)
    (k' : ∀ T', T' = T.setIfInBounds s v → ∀ d, Goes P true Go.Conc.AtRel (DE E) Stop n (G (b.at ⟨T', []⟩ (.inRegion ops rest :: k)) cs) ((after W L).at d)) : Goes P true Go.Conc.AtRel (DE E) Stop (n + 1) (G (b.at ⟨T, []⟩ (.inRegion ops (i :: rest) :: k)) cs) ((after W L).at d₀) := by
  refine goes_opr (v := v) ho hw hk (fun d => ?_) (fun d e he => ?_) (fun d => ?_)
  · unfold execOp
    rcases hop with h | h <;> rw [h] <;> simp [hx]
  · unfold execOp at he
    rcases hop with h | h <;> rw [h] at he <;> simp at he
  · rw [hd]
    exact k' _ rfl d
end
theorem rest_app {v0 v1 : Value} {m : Nat} (i : Nat) (h1 : 2 ≤ i) : (#[v0, v1] ++ Array.replicate m undef : Array Value).getD i undef = undef := by
  rw [Array.getD_eq_getD_getElem?, Array.getElem?_append_right (by simpa using h1), Array.getElem?_replicate]
  split <;> rfl
def late3 (i : Nat) : Bool := decide (6 ≤ i) && i != 11 && i != 12 && i != 13 && i != 23
theorem shown_ge {i : Nat} (h : shown i = true) : 2 ≤ i := by
  simp [shown] at h
  omega
theorem nm11 : (Tryz.f11.name == "runtime.NumGoroutine") = false := by kernel_rfl
theorem nm25 : (Tryz.f25.name == "runtime.NumGoroutine") = false := by kernel_rfl
theorem nm26 : (Tryz.f26.name == "runtime.NumGoroutine") = false := by kernel_rfl
theorem nm4 : (Tryz.f4.name == "runtime.NumGoroutine") = false := by kernel_rfl
end Pool
end Go.Proofs.YtdkpbobglogmoaaGreat
