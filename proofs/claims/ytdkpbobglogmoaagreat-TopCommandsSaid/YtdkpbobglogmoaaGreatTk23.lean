/- Parts of the proof of TopCommandsProof: TopGo3 TopFrag. -/
import Derived.Test.YtdkpbobglogmoaaGreatTk14
import Derived.Test.YtdkpbobglogmoaaGreatTk21
set_option linter.unusedVariables false
set_option linter.unusedSimpArgs false
set_option maxRecDepth 100000
set_option maxHeartbeats 32000000
namespace Go.Proofs.YtdkpbobglogmoaaGreat
open Go Go.Conc Go.RowKit Go.Conc.Lib
open Go.ConcX.Gen (at_at)
namespace Pool
section
variable {E : Event → Prop} {Ok : Nat → Prop} {Stop : Goroutine → World → Prop} {n : Nat} {W : World}
theorem go3 {T : Array Value} {K : List Frame} {pb cp : Nat} (sT : T.size = 51) (e10 : T.getD 10 undef = .tuple #[.slice (some ⟨pb, 0, none⟩) 24 cp, .nilIface]) (hE : Lets E Ok) (obc : Ok (W.heap.size + 4))
    (hk : ∀ d T4 T11 T26, T4.size = 51 → T11.size = 101 → T26.size = 18 → T4.getD 1 undef = .slice (some ⟨pb, 0, none⟩) 24 cp → T4.getD 2 undef = .nilIface → T11.getD 7 undef = .map (some (W.heap.size + 1)) → (∀ i, shown i = true → i ≠ 7 → T11.getD i undef = undef) →
      T26.getD 2 undef = .pointer (some ⟨W.heap.size + 2, 0, none⟩) → T26.getD 5 undef = .pointer (some ⟨W.heap.size + 4, 0, none⟩) → T26.getD 6 undef = .pointer (some ⟨W.heap.size + 5, 0, none⟩) → T26.getD 7 undef = .pointer (some ⟨W.heap.size + 6, 0, none⟩) → T26.getD 10 undef = .int .i64 2 → T26.getD 11 undef = .int .i64 0 →
      Goes Tryz.prog true Go.Conc.AtRel (DE E) Stop n (G ((base 26).at ⟨T26, []⟩ [.code c26bbbbabaa, .inLoop c26bbbbabaa, .inBlock 0, .code c26bbbbb]) ((base 11).at ⟨T11, []⟩ [.inRegion oc11bbbaa [2], .code c11bbbab, .code c11bbbb] :: (base 4).at ⟨T4, []⟩ [.inRegion oc4bba [2, 3, 4, 5, 6, 7], .code c4bbb] :: K)) ((after W [.cells #[.slice (some ⟨pb, 0, none⟩) 24 cp] 33, .map #[] 0, .cells #[.slice (some ⟨W.heap.size, 0, none⟩) 1 1] 50, .chan 2 #[] false 0 0 false, .cells #[.chan (some (W.heap.size + 3))] 101, .cells #[.int .i64 0] 106, .cells #[.int .u64 0, .int .u32 0] 111]).at d)) :
    Goes Tryz.prog true Go.Conc.AtRel (DE E) Stop (n + 200) (G ((base 4).at ⟨T, []⟩ [.inRegion oc4ba [3, 4, 5, 6, 7], .code c4bb]) K) W := by
  obtain ⟨i33, hi33, hz33, hs33⟩ : ∃ i0, Tryz.prog.info? 33 = some i0 ∧ i0.zero = some (.slice none 0 0) ∧ i0.size = 1 := ⟨_, rfl, rfl, rfl⟩
  have hb33 := fun w a n c => bs_one (P := Tryz.prog) (t := 50) (e := 33) (parts := #[(0, Value.slice a n c)]) (cells := #[.slice a n c]) (ie := i33) (z := .slice none 0 0) (w := w) rfl hi33 hz33 hs33 (by have h0 : Array.range 1 = #[0] := rfl; simp [Instr.fill, Value.cells, h0])
  have hmm : ∀ w : World, (Instr.makeMap 81 none).run Tryz.prog w = .ok (.map (some w.heap.size)) (w.alloc (.map #[] 0)) := fun w => rfl
  have hmv : ∀ (w : World) (es : Array Event), (Instr.makeMap 81 none).events Tryz.prog w es = es := fun w es => rfl
  obtain ⟨i85, hi85, hy85⟩ : ∃ i0, Tryz.prog.info? 85 = some i0 ∧ (i0.bytes : Int) * (2 : Nat) ≤ 281474976710544 := ⟨_, rfl, by decide⟩
  have hmc : ∀ w : World, (Instr.makeChan 101 (.int .i64 2)).run Tryz.prog w = .ok (.chan (some w.heap.size)) (w.alloc (.chan 2 #[] false 0 0 false)) := fun w => run_makeChan (t := 101) rfl hi85 .i64 2 (by decide) hy85
  have hme : ∀ (w : World) (es : Array Event), (Instr.makeChan 101 (.int .i64 2)).events Tryz.prog w es = es := fun w es => events_makeChan (t := 101) rfl hi85 .i64 2 (by decide) hy85 es
  rw [show W = (after W []).at W.drawn by rw [after_nil]; rfl]
  refine goes_mv (s := 7) (v := .tuple #[.slice (some ⟨pb, 0, none⟩) 24 cp, .nilIface]) (o := oc4ba[3]'(by decide)) (by rfl) (by rfl) (by k_ne) (.inl rfl) rfl e10 fun T2_ hT2_ d => ?_
  have sT2_ : T2_.size = 51 := by rw [hT2_]; simpa using sT
  have e7_2 : T2_.getD 7 undef = .tuple #[.slice (some ⟨pb, 0, none⟩) 24 cp, .nilIface] := by rw [hT2_]; exact getD_same (by rw [sT]; decide)
  have eo3 : (oc4ba[4]'(by decide)).op = Op.extract (Operand.tmp 7) 0 := by rfl
  refine goes_opr (v := .slice (some ⟨pb, 0, none⟩) 24 cp) (o := oc4ba[4]'(by decide)) (by rfl) (by rfl) (by k_ne) (fun d => ?_) (fun d e he => ?_) (fun d => ?_)
  · show (execOp (Act.eval ⟨T2_, []⟩) _).run _ _ = _
    unfold execOp
    simp [eo3, go_sem, Act.eval, ← Array.getD_eq_getD_getElem?, e7_2]
  · rw [show (execOp (Act.eval ⟨T2_, []⟩) (oc4ba[4]'(by decide))) = _ from by unfold execOp; rw [eo3]] at he
    simp [eo3, go_sem, Act.eval, ← Array.getD_eq_getD_getElem?, e7_2] at he
  obtain ⟨T4_, hT4_⟩ : ∃ T4_, T4_ = T2_.setIfInBounds 11 (.slice (some ⟨pb, 0, none⟩) 24 cp) := ⟨_, rfl⟩
  have sT4_ : T4_.size = 51 := by rw [hT4_]; simpa using sT2_
  have e7_4 : T4_.getD 7 undef = .tuple #[.slice (some ⟨pb, 0, none⟩) 24 cp, .nilIface] := by rw [hT4_, getD_ne (by decide)]; exact e7_2
  have e11_4 : T4_.getD 11 undef = .slice (some ⟨pb, 0, none⟩) 24 cp := by rw [hT4_]; exact getD_same (by rw [sT2_]; decide)
  show Goes _ _ _ _ _ (n + 198) (G ((base 4).at ⟨T2_.setIfInBounds 11 (.slice (some ⟨pb, 0, none⟩) 24 cp), []⟩ [.inRegion oc4ba [5, 6, 7], .code c4bb]) _) _
  rw [← hT4_]
  have eo5 : (oc4ba[5]'(by decide)).op = Op.extract (Operand.tmp 7) 1 := by rfl
  refine goes_opr (v := .nilIface) (o := oc4ba[5]'(by decide)) (by rfl) (by rfl) (by k_ne) (fun d => ?_) (fun d e he => ?_) (fun d => ?_)
  · show (execOp (Act.eval ⟨T4_, []⟩) _).run _ _ = _
    unfold execOp
    simp [eo5, go_sem, Act.eval, ← Array.getD_eq_getD_getElem?, e7_4]
  · rw [show (execOp (Act.eval ⟨T4_, []⟩) (oc4ba[5]'(by decide))) = _ from by unfold execOp; rw [eo5]] at he
    simp [eo5, go_sem, Act.eval, ← Array.getD_eq_getD_getElem?, e7_4] at he
  obtain ⟨T6_, hT6_⟩ : ∃ T6_, T6_ = T4_.setIfInBounds 12 (.nilIface) := ⟨_, rfl⟩
  have sT6_ : T6_.size = 51 := by rw [hT6_]; simpa using sT4_
  have e11_6 : T6_.getD 11 undef = .slice (some ⟨pb, 0, none⟩) 24 cp := by rw [hT6_, getD_ne (by decide)]; exact e11_4
  have e12_6 : T6_.getD 12 undef = .nilIface := by rw [hT6_]; exact getD_same (by rw [sT4_]; decide)
  show Goes _ _ _ _ _ (n + 197) (G ((base 4).at ⟨T4_.setIfInBounds 12 (.nilIface), []⟩ [.inRegion oc4ba [6, 7], .code c4bb]) _) _
  rw [← hT6_]
  refine goes_mv (s := 1) (v := .slice (some ⟨pb, 0, none⟩) 24 cp) (o := oc4ba[6]'(by decide)) (by rfl) (by rfl) (by k_ne) (.inr rfl) rfl e11_6 fun T8_ hT8_ d => ?_
  have sT8_ : T8_.size = 51 := by rw [hT8_]; simpa using sT6_
  have e12_8 : T8_.getD 12 undef = .nilIface := by rw [hT8_, getD_ne (by decide)]; exact e12_6
  have e1_8 : T8_.getD 1 undef = .slice (some ⟨pb, 0, none⟩) 24 cp := by rw [hT8_]; exact getD_same (by rw [sT6_]; decide)
  refine goes_mv (s := 2) (v := .nilIface) (o := oc4ba[7]'(by decide)) (by rfl) (by rfl) (by k_ne) (.inr rfl) rfl e12_8 fun T10_ hT10_ d => ?_
  have sT10_ : T10_.size = 51 := by rw [hT10_]; simpa using sT8_
  have e1_10 : T10_.getD 1 undef = .slice (some ⟨pb, 0, none⟩) 24 cp := by rw [hT10_, getD_ne (by decide)]; exact e1_8
  have e2_10 : T10_.getD 2 undef = .nilIface := by rw [hT10_]; exact getD_same (by rw [sT8_]; decide)
  refine goes_same rfl (fun w => stepG_region_end) (fun d => ?_)
  refine goes_same rfl (fun w => stepG_seq) (fun d => ?_)
  refine goes_same rfl (fun w => stepG_region) (fun d => ?_)
  show Goes _ _ _ _ _ (n + 192) (G ((base 4).at ⟨T10_, []⟩ [.inRegion oc4bba [0, 1, 2, 3, 4, 5, 6, 7], .code c4bbb]) _) _
  refine goes_mv (s := 14) (v := .slice (some ⟨pb, 0, none⟩) 24 cp) (o := oc4bba[0]'(by decide)) (by rfl) (by rfl) (by k_ne) (.inl rfl) rfl e1_10 fun T12_ hT12_ d => ?_
  have sT12_ : T12_.size = 51 := by rw [hT12_]; simpa using sT10_
  have e1_12 : T12_.getD 1 undef = .slice (some ⟨pb, 0, none⟩) 24 cp := by rw [hT12_, getD_ne (by decide)]; exact e1_10
  have e2_12 : T12_.getD 2 undef = .nilIface := by rw [hT12_, getD_ne (by decide)]; exact e2_10
  have e14_12 : T12_.getD 14 undef = .slice (some ⟨pb, 0, none⟩) 24 cp := by rw [hT12_]; exact getD_same (by rw [sT10_]; decide)
  have eo13 : (oc4bba[1]'(by decide)).op = Op.buildSlice 50 1 #[(0, Operand.tmp 14)] := by rfl
  refine goes_opn' (v := .slice (some ⟨W.heap.size, 0, none⟩) 1 1) (ob := .cells #[.slice (some ⟨pb, 0, none⟩) 24 cp] 33) (o := oc4bba[1]'(by decide)) (by rfl) (by rfl) (by k_ne) (fun d => ?_) (fun d e he => ?_) (fun d => ?_)
  · show (execOp (Act.eval ⟨T12_, []⟩) _).run _ _ = _
    unfold execOp
    simp only [eo13, Act.eval, List.map_toArray, List.map_cons, List.map_nil, Option.map_none, e14_12]
    exact (val_run (hb33 _ _ _ _).1).trans (by rw [size_after]; rfl)
  · rw [show (execOp (Act.eval ⟨T12_, []⟩) (oc4bba[1]'(by decide))) = _ from by unfold execOp; rw [eo13]] at he
    simp only [Act.eval, List.map_toArray, List.map_cons, List.map_nil, Option.map_none, e14_12] at he
    rw [val_ev (hb33 _ _ _ _)] at he
    simp at he
  simp only [List.nil_append, List.cons_append, Nat.add_zero]
  obtain ⟨T14_, hT14_⟩ : ∃ T14_, T14_ = T12_.setIfInBounds 15 (.slice (some ⟨W.heap.size, 0, none⟩) 1 1) := ⟨_, rfl⟩
  have sT14_ : T14_.size = 51 := by rw [hT14_]; simpa using sT12_
  have e1_14 : T14_.getD 1 undef = .slice (some ⟨pb, 0, none⟩) 24 cp := by rw [hT14_, getD_ne (by decide)]; exact e1_12
  have e2_14 : T14_.getD 2 undef = .nilIface := by rw [hT14_, getD_ne (by decide)]; exact e2_12
  have e15_14 : T14_.getD 15 undef = .slice (some ⟨W.heap.size, 0, none⟩) 1 1 := by rw [hT14_]; exact getD_same (by rw [sT12_]; decide)
  show Goes _ _ _ _ _ (n + 190) (G ((base 4).at ⟨T12_.setIfInBounds 15 (.slice (some ⟨W.heap.size, 0, none⟩) 1 1), []⟩ [.inRegion oc4bba [2, 3, 4, 5, 6, 7], .code c4bbb]) _) _
  rw [← hT14_]
  obtain ⟨T15_, hT15_⟩ : ∃ T15_ : Array Value, T15_ = #[.slice (some ⟨W.heap.size, 0, none⟩) 1 1, .int .i64 2] ++ Array.replicate 99 undef := ⟨_, rfl⟩
  have sT15_ : T15_.size = 101 := by rw [hT15_]; simp
  refine goes_enter' (W := (after W [.cells #[.slice (some ⟨pb, 0, none⟩) 24 cp] 33]).at _) (by rfl) (by rfl) (by k_ne) (by rfl) Tryz.func11 nm11 (by rfl) (T' := T15_) (by rw [hT15_]; simp only [List.map_toArray, List.map_cons, List.map_nil, Act.eval, Tryz.ntmps11, List.size_toArray, List.length_cons, List.length_nil, Nat.reduceAdd, Nat.reduceSub, e15_14]) (fun d => ?_)
  simp only [at_at]
  have e0_15 : T15_.getD 0 undef = .slice (some ⟨W.heap.size, 0, none⟩) 1 1 := by rw [hT15_]; simp [Array.getD_eq_getD_getElem?, Array.getElem?_append]
  have e1_15 : T15_.getD 1 undef = .int .i64 2 := by rw [hT15_]; simp [Array.getD_eq_getD_getElem?, Array.getElem?_append]
  show Goes _ _ _ _ _ (n + 189) (G ((base 11).at ⟨T15_, []⟩ [.code c11]) _) _
  have r15 : ∀ i, shown i = true → i ≠ 7 → T15_.getD i undef = undef := fun i h1 _ => by rw [hT15_]; exact rest_app i (shown_ge h1)
  refine goes_same rfl (fun w => stepG_seq) (fun d => ?_)
  refine goes_same rfl (fun w => stepG_region) (fun d => ?_)
  show Goes _ _ _ _ _ (n + 187) (G ((base 11).at ⟨T15_, []⟩ [.inRegion oc11a [0, 1], .code c11b]) _) _
  refine goes_mv (s := 4) (v := .slice none 0 0) (o := oc11a[0]'(by decide)) (by rfl) (by rfl) (by k_ne) (.inr rfl) rfl rfl fun T17_ hT17_ d => ?_
  have sT17_ : T17_.size = 101 := by rw [hT17_]; simpa using sT15_
  have e0_17 : T17_.getD 0 undef = .slice (some ⟨W.heap.size, 0, none⟩) 1 1 := by rw [hT17_, getD_ne (by decide)]; exact e0_15
  have e1_17 : T17_.getD 1 undef = .int .i64 2 := by rw [hT17_, getD_ne (by decide)]; exact e1_15
  have r17 : ∀ i, shown i = true → i ≠ 7 → T17_.getD i undef = undef := fun i h1 h2 => by rw [hT17_, getD_ne (fun e => by subst e; exact absurd h1 (by decide))]; exact r15 i h1 h2
  refine goes_mv (s := 5) (v := .nilIface) (o := oc11a[1]'(by decide)) (by rfl) (by rfl) (by k_ne) (.inr rfl) rfl rfl fun T19_ hT19_ d => ?_
  have sT19_ : T19_.size = 101 := by rw [hT19_]; simpa using sT17_
  have e0_19 : T19_.getD 0 undef = .slice (some ⟨W.heap.size, 0, none⟩) 1 1 := by rw [hT19_, getD_ne (by decide)]; exact e0_17
  have e1_19 : T19_.getD 1 undef = .int .i64 2 := by rw [hT19_, getD_ne (by decide)]; exact e1_17
  have r19 : ∀ i, shown i = true → i ≠ 7 → T19_.getD i undef = undef := fun i h1 h2 => by rw [hT19_, getD_ne (fun e => by subst e; exact absurd h1 (by decide))]; exact r17 i h1 h2
  refine goes_same rfl (fun w => stepG_region_end) (fun d => ?_)
  refine goes_same rfl (fun w => stepG_seq) (fun d => ?_)
  refine goes_same rfl (fun w => stepG_seq) (fun d => ?_)
  refine goes_same rfl (fun w => stepG_region) (fun d => ?_)
  show Goes _ _ _ _ _ (n + 181) (G ((base 11).at ⟨T19_, []⟩ [.inRegion oc11baa [0, 1, 2, 3], .code c11bab, .code c11bb]) _) _
  refine goes_mv (s := 15) (v := .slice (some ⟨W.heap.size, 0, none⟩) 1 1) (o := oc11baa[0]'(by decide)) (by rfl) (by rfl) (by k_ne) (.inl rfl) rfl e0_19 fun T21_ hT21_ d => ?_
  have sT21_ : T21_.size = 101 := by rw [hT21_]; simpa using sT19_
  have e0_21 : T21_.getD 0 undef = .slice (some ⟨W.heap.size, 0, none⟩) 1 1 := by rw [hT21_, getD_ne (by decide)]; exact e0_19
  have e1_21 : T21_.getD 1 undef = .int .i64 2 := by rw [hT21_, getD_ne (by decide)]; exact e1_19
  have e15_21 : T21_.getD 15 undef = .slice (some ⟨W.heap.size, 0, none⟩) 1 1 := by rw [hT21_]; exact getD_same (by rw [sT19_]; decide)
  have r21 : ∀ i, shown i = true → i ≠ 7 → T21_.getD i undef = undef := fun i h1 h2 => by rw [hT21_, getD_ne (fun e => by subst e; exact absurd h1 (by decide))]; exact r19 i h1 h2
  refine goes_mv (s := 16) (v := .int .i64 2) (o := oc11baa[1]'(by decide)) (by rfl) (by rfl) (by k_ne) (.inl rfl) rfl e1_21 fun T23_ hT23_ d => ?_
  have sT23_ : T23_.size = 101 := by rw [hT23_]; simpa using sT21_
  have e0_23 : T23_.getD 0 undef = .slice (some ⟨W.heap.size, 0, none⟩) 1 1 := by rw [hT23_, getD_ne (by decide)]; exact e0_21
  have e1_23 : T23_.getD 1 undef = .int .i64 2 := by rw [hT23_, getD_ne (by decide)]; exact e1_21
  have e15_23 : T23_.getD 15 undef = .slice (some ⟨W.heap.size, 0, none⟩) 1 1 := by rw [hT23_, getD_ne (by decide)]; exact e15_21
  have e16_23 : T23_.getD 16 undef = .int .i64 2 := by rw [hT23_]; exact getD_same (by rw [sT21_]; decide)
  have r23 : ∀ i, shown i = true → i ≠ 7 → T23_.getD i undef = undef := fun i h1 h2 => by rw [hT23_, getD_ne (fun e => by subst e; exact absurd h1 (by decide))]; exact r21 i h1 h2
  obtain ⟨T24_, hT24_⟩ : ∃ T24_ : Array Value, T24_ = #[.slice (some ⟨W.heap.size, 0, none⟩) 1 1, .int .i64 2] ++ Array.replicate 14 undef := ⟨_, rfl⟩
  have sT24_ : T24_.size = 16 := by rw [hT24_]; simp
  refine goes_enter' (W := (after W [.cells #[.slice (some ⟨pb, 0, none⟩) 24 cp] 33]).at _) (by rfl) (by rfl) (by k_ne) (by rfl) Tryz.func25 nm25 (by rfl) (T' := T24_) (by rw [hT24_]; simp only [List.map_toArray, List.map_cons, List.map_nil, Act.eval, Tryz.ntmps25, List.size_toArray, List.length_cons, List.length_nil, Nat.reduceAdd, Nat.reduceSub, e15_23, e16_23]) (fun d => ?_)
  simp only [at_at]
  have e0_24 : T24_.getD 0 undef = .slice (some ⟨W.heap.size, 0, none⟩) 1 1 := by rw [hT24_]; simp [Array.getD_eq_getD_getElem?, Array.getElem?_append]
  have e1_24 : T24_.getD 1 undef = .int .i64 2 := by rw [hT24_]; simp [Array.getD_eq_getD_getElem?, Array.getElem?_append]
  show Goes _ _ _ _ _ (n + 178) (G ((base 25).at ⟨T24_, []⟩ [.code c25]) _) _
  refine goes_same rfl (fun w => stepG_seq) (fun d => ?_)
  refine goes_same rfl (fun w => stepG_region) (fun d => ?_)
  show Goes _ _ _ _ _ (n + 176) (G ((base 25).at ⟨T24_, []⟩ [.inRegion oc25a [0], .code c25b]) _) _
  refine goes_mv (s := 4) (v := .nilIface) (o := oc25a[0]'(by decide)) (by rfl) (by rfl) (by k_ne) (.inr rfl) rfl rfl fun T26_ hT26_ d => ?_
  have sT26_ : T26_.size = 16 := by rw [hT26_]; simpa using sT24_
  have e0_26 : T26_.getD 0 undef = .slice (some ⟨W.heap.size, 0, none⟩) 1 1 := by rw [hT26_, getD_ne (by decide)]; exact e0_24
  have e1_26 : T26_.getD 1 undef = .int .i64 2 := by rw [hT26_, getD_ne (by decide)]; exact e1_24
  have e4_26 : T26_.getD 4 undef = .nilIface := by rw [hT26_]; exact getD_same (by rw [sT24_]; decide)
  refine goes_same rfl (fun w => stepG_region_end) (fun d => ?_)
  refine goes_same rfl (fun w => stepG_seq) (fun d => ?_)
  refine goes_same rfl (fun w => stepG_seq) (fun d => ?_)
  refine goes_same rfl (fun w => stepG_region) (fun d => ?_)
  show Goes _ _ _ _ _ (n + 171) (G ((base 25).at ⟨T26_, []⟩ [.inRegion oc25baa [0, 1, 2, 3, 4, 5], .code c25bab, .code c25bb]) _) _
  refine goes_mv (s := 5) (v := .int .i64 2) (o := oc25baa[0]'(by decide)) (by rfl) (by rfl) (by k_ne) (.inl rfl) rfl e1_26 fun T28_ hT28_ d => ?_
  have sT28_ : T28_.size = 16 := by rw [hT28_]; simpa using sT26_
  have e0_28 : T28_.getD 0 undef = .slice (some ⟨W.heap.size, 0, none⟩) 1 1 := by rw [hT28_, getD_ne (by decide)]; exact e0_26
  have e1_28 : T28_.getD 1 undef = .int .i64 2 := by rw [hT28_, getD_ne (by decide)]; exact e1_26
  have e4_28 : T28_.getD 4 undef = .nilIface := by rw [hT28_, getD_ne (by decide)]; exact e4_26
  have e5_28 : T28_.getD 5 undef = .int .i64 2 := by rw [hT28_]; exact getD_same (by rw [sT26_]; decide)
  have eo29 : (oc25baa[1]'(by decide)).op = Op.binOp BinOp.lss 3 (Operand.tmp 5) (Operand.const (Value.int IntKind.i64 1)) 3 := by rfl
  refine goes_opr (v := .bool false) (o := oc25baa[1]'(by decide)) (by rfl) (by rfl) (by k_ne) (fun d => ?_) (fun d e he => ?_) (fun d => ?_)
  · show (execOp (Act.eval ⟨T28_, []⟩) _).run _ _ = _
    unfold execOp
    simp [eo29, go_sem, Act.eval, ← Array.getD_eq_getD_getElem?, e5_28]
  · rw [show (execOp (Act.eval ⟨T28_, []⟩) (oc25baa[1]'(by decide))) = _ from by unfold execOp; rw [eo29]] at he
    simp [eo29, go_sem, Act.eval, ← Array.getD_eq_getD_getElem?, e5_28] at he
  obtain ⟨T30_, hT30_⟩ : ∃ T30_, T30_ = T28_.setIfInBounds 6 (.bool false) := ⟨_, rfl⟩
  have sT30_ : T30_.size = 16 := by rw [hT30_]; simpa using sT28_
  have e0_30 : T30_.getD 0 undef = .slice (some ⟨W.heap.size, 0, none⟩) 1 1 := by rw [hT30_, getD_ne (by decide)]; exact e0_28
  have e1_30 : T30_.getD 1 undef = .int .i64 2 := by rw [hT30_, getD_ne (by decide)]; exact e1_28
  have e4_30 : T30_.getD 4 undef = .nilIface := by rw [hT30_, getD_ne (by decide)]; exact e4_28
  have e6_30 : T30_.getD 6 undef = .bool false := by rw [hT30_]; exact getD_same (by rw [sT28_]; decide)
  show Goes _ _ _ _ _ (n + 169) (G ((base 25).at ⟨T28_.setIfInBounds 6 (.bool false), []⟩ [.inRegion oc25baa [2, 3, 4, 5], .code c25bab, .code c25bb]) _) _
  rw [← hT30_]
  refine goes_mv (s := 7) (v := .bool false) (o := oc25baa[2]'(by decide)) (by rfl) (by rfl) (by k_ne) (.inl rfl) rfl e6_30 fun T32_ hT32_ d => ?_
  have sT32_ : T32_.size = 16 := by rw [hT32_]; simpa using sT30_
  have e0_32 : T32_.getD 0 undef = .slice (some ⟨W.heap.size, 0, none⟩) 1 1 := by rw [hT32_, getD_ne (by decide)]; exact e0_30
  have e1_32 : T32_.getD 1 undef = .int .i64 2 := by rw [hT32_, getD_ne (by decide)]; exact e1_30
  have e4_32 : T32_.getD 4 undef = .nilIface := by rw [hT32_, getD_ne (by decide)]; exact e4_30
  have e7_32 : T32_.getD 7 undef = .bool false := by rw [hT32_]; exact getD_same (by rw [sT30_]; decide)
  refine goes_mv (s := 8) (v := .int .i64 2) (o := oc25baa[3]'(by decide)) (by rfl) (want_of (j := 2) (s := 7) (b := false) (by rfl) (by rfl) (by rw [sT32_]; decide) e7_32) (by k_ne) (.inl rfl) rfl e1_32 fun T34_ hT34_ d => ?_
  have sT34_ : T34_.size = 16 := by rw [hT34_]; simpa using sT32_
  have e0_34 : T34_.getD 0 undef = .slice (some ⟨W.heap.size, 0, none⟩) 1 1 := by rw [hT34_, getD_ne (by decide)]; exact e0_32
  have e4_34 : T34_.getD 4 undef = .nilIface := by rw [hT34_, getD_ne (by decide)]; exact e4_32
  have e7_34 : T34_.getD 7 undef = .bool false := by rw [hT34_, getD_ne (by decide)]; exact e7_32
  have e8_34 : T34_.getD 8 undef = .int .i64 2 := by rw [hT34_]; exact getD_same (by rw [sT32_]; decide)
  have eo35 : (oc25baa[4]'(by decide)).op = Op.binOp BinOp.gtr 3 (Operand.tmp 8) (Operand.const (Value.int IntKind.i64 8)) 3 := by rfl
  refine goes_opr (v := .bool false) (o := oc25baa[4]'(by decide)) (by rfl) (want_of (j := 2) (s := 7) (b := false) (by rfl) (by rfl) (by rw [sT34_]; decide) e7_34) (by k_ne) (fun d => ?_) (fun d e he => ?_) (fun d => ?_)
  · show (execOp (Act.eval ⟨T34_, []⟩) _).run _ _ = _
    unfold execOp
    simp [eo35, go_sem, Act.eval, ← Array.getD_eq_getD_getElem?, e8_34]
  · rw [show (execOp (Act.eval ⟨T34_, []⟩) (oc25baa[4]'(by decide))) = _ from by unfold execOp; rw [eo35]] at he
    simp [eo35, go_sem, Act.eval, ← Array.getD_eq_getD_getElem?, e8_34] at he
  obtain ⟨T36_, hT36_⟩ : ∃ T36_, T36_ = T34_.setIfInBounds 9 (.bool false) := ⟨_, rfl⟩
  have sT36_ : T36_.size = 16 := by rw [hT36_]; simpa using sT34_
  have e0_36 : T36_.getD 0 undef = .slice (some ⟨W.heap.size, 0, none⟩) 1 1 := by rw [hT36_, getD_ne (by decide)]; exact e0_34
  have e4_36 : T36_.getD 4 undef = .nilIface := by rw [hT36_, getD_ne (by decide)]; exact e4_34
  have e7_36 : T36_.getD 7 undef = .bool false := by rw [hT36_, getD_ne (by decide)]; exact e7_34
  have e9_36 : T36_.getD 9 undef = .bool false := by rw [hT36_]; exact getD_same (by rw [sT34_]; decide)
  show Goes _ _ _ _ _ (n + 166) (G ((base 25).at ⟨T34_.setIfInBounds 9 (.bool false), []⟩ [.inRegion oc25baa [5], .code c25bab, .code c25bb]) _) _
  rw [← hT36_]
  have eo37 : (oc25baa[5]'(by decide)).op = Op.pick (Operand.tmp 7) (Operand.const (Value.bool true)) (Operand.tmp 9) := by rfl
  refine goes_opr (v := .bool false) (o := oc25baa[5]'(by decide)) (by rfl) (by rfl) (by k_ne) (fun d => ?_) (fun d e he => ?_) (fun d => ?_)
  · show (execOp (Act.eval ⟨T36_, []⟩) _).run _ _ = _
    unfold execOp
    simp [eo37, go_sem, Act.eval, ← Array.getD_eq_getD_getElem?, e7_36, e9_36]
  · rw [show (execOp (Act.eval ⟨T36_, []⟩) (oc25baa[5]'(by decide))) = _ from by unfold execOp; rw [eo37]] at he
    simp [eo37, go_sem, Act.eval, ← Array.getD_eq_getD_getElem?, e7_36, e9_36] at he
  obtain ⟨T38_, hT38_⟩ : ∃ T38_, T38_ = T36_.setIfInBounds 10 (.bool false) := ⟨_, rfl⟩
  have sT38_ : T38_.size = 16 := by rw [hT38_]; simpa using sT36_
  have e0_38 : T38_.getD 0 undef = .slice (some ⟨W.heap.size, 0, none⟩) 1 1 := by rw [hT38_, getD_ne (by decide)]; exact e0_36
  have e4_38 : T38_.getD 4 undef = .nilIface := by rw [hT38_, getD_ne (by decide)]; exact e4_36
  have e10_38 : T38_.getD 10 undef = .bool false := by rw [hT38_]; exact getD_same (by rw [sT36_]; decide)
  show Goes _ _ _ _ _ (n + 165) (G ((base 25).at ⟨T36_.setIfInBounds 10 (.bool false), []⟩ [.inRegion oc25baa [], .code c25bab, .code c25bb]) _) _
  rw [← hT38_]
  refine goes_same rfl (fun w => stepG_region_end) (fun d => ?_)
  refine goes_same rfl (fun w => stepG_cond (t := false) e10_38) (fun d => ?_)
  refine goes_same rfl (fun w => stepG_skip) (fun d => ?_)
  refine goes_same rfl (fun w => stepG_seq) (fun d => ?_)
  refine goes_same rfl (fun w => stepG_seq) (fun d => ?_)
  refine goes_same rfl (fun w => stepG_region) (fun d => ?_)
  show Goes _ _ _ _ _ (n + 159) (G ((base 25).at ⟨T38_, []⟩ [.inRegion oc25bbaa [0, 1, 2], .code c25bbab, .code c25bbb]) _) _
  refine goes_mv (s := 12) (v := .slice (some ⟨W.heap.size, 0, none⟩) 1 1) (o := oc25bbaa[0]'(by decide)) (by rfl) (by rfl) (by k_ne) (.inl rfl) rfl e0_38 fun T40_ hT40_ d => ?_
  have sT40_ : T40_.size = 16 := by rw [hT40_]; simpa using sT38_
  have e4_40 : T40_.getD 4 undef = .nilIface := by rw [hT40_, getD_ne (by decide)]; exact e4_38
  have e12_40 : T40_.getD 12 undef = .slice (some ⟨W.heap.size, 0, none⟩) 1 1 := by rw [hT40_]; exact getD_same (by rw [sT38_]; decide)
  have eo41 : (oc25bbaa[1]'(by decide)).op = Op.call { callee := Callee.builtin Builtin.len, args := #[Operand.tmp 12], argTypes := #[50] } := by rfl
  refine goes_opr (v := .int .i64 1) (o := oc25bbaa[1]'(by decide)) (by rfl) (by rfl) (by k_ne) (fun d => ?_) (fun d e he => ?_) (fun d => ?_)
  · show (execOp (Act.eval ⟨T40_, []⟩) _).run _ _ = _
    unfold execOp
    simp [eo41, go_sem, Act.eval, ← Array.getD_eq_getD_getElem?, e12_40, goInt]
  · rw [show (execOp (Act.eval ⟨T40_, []⟩) (oc25bbaa[1]'(by decide))) = _ from by unfold execOp; rw [eo41]] at he
    simp [eo41, go_sem, Act.eval, ← Array.getD_eq_getD_getElem?, e12_40, goInt] at he
  obtain ⟨T42_, hT42_⟩ : ∃ T42_, T42_ = T40_.setIfInBounds 13 (.int .i64 1) := ⟨_, rfl⟩
  have sT42_ : T42_.size = 16 := by rw [hT42_]; simpa using sT40_
  have e4_42 : T42_.getD 4 undef = .nilIface := by rw [hT42_, getD_ne (by decide)]; exact e4_40
  have e13_42 : T42_.getD 13 undef = .int .i64 1 := by rw [hT42_]; exact getD_same (by rw [sT40_]; decide)
  show Goes _ _ _ _ _ (n + 157) (G ((base 25).at ⟨T40_.setIfInBounds 13 (.int .i64 1), []⟩ [.inRegion oc25bbaa [2], .code c25bbab, .code c25bbb]) _) _
  rw [← hT42_]
  have eo43 : (oc25bbaa[2]'(by decide)).op = Op.binOp BinOp.gtr 3 (Operand.tmp 13) (Operand.const (Value.int IntKind.i64 4096)) 3 := by rfl
  refine goes_opr (v := .bool false) (o := oc25bbaa[2]'(by decide)) (by rfl) (by rfl) (by k_ne) (fun d => ?_) (fun d e he => ?_) (fun d => ?_)
  · show (execOp (Act.eval ⟨T42_, []⟩) _).run _ _ = _
    unfold execOp
    simp [eo43, go_sem, Act.eval, ← Array.getD_eq_getD_getElem?, e13_42]
  · rw [show (execOp (Act.eval ⟨T42_, []⟩) (oc25bbaa[2]'(by decide))) = _ from by unfold execOp; rw [eo43]] at he
    simp [eo43, go_sem, Act.eval, ← Array.getD_eq_getD_getElem?, e13_42] at he
  obtain ⟨T44_, hT44_⟩ : ∃ T44_, T44_ = T42_.setIfInBounds 14 (.bool false) := ⟨_, rfl⟩
  have sT44_ : T44_.size = 16 := by rw [hT44_]; simpa using sT42_
  have e4_44 : T44_.getD 4 undef = .nilIface := by rw [hT44_, getD_ne (by decide)]; exact e4_42
  have e14_44 : T44_.getD 14 undef = .bool false := by rw [hT44_]; exact getD_same (by rw [sT42_]; decide)
  show Goes _ _ _ _ _ (n + 156) (G ((base 25).at ⟨T42_.setIfInBounds 14 (.bool false), []⟩ [.inRegion oc25bbaa [], .code c25bbab, .code c25bbb]) _) _
  rw [← hT44_]
  refine goes_same rfl (fun w => stepG_region_end) (fun d => ?_)
  refine goes_same rfl (fun w => stepG_cond (t := false) e14_44) (fun d => ?_)
  refine goes_same rfl (fun w => stepG_skip) (fun d => ?_)
  refine goes_same rfl (fun w => stepG_seq) (fun d => ?_)
  refine goes_same rfl (fun w => stepG_region) (fun d => ?_)
  show Goes _ _ _ _ _ (n + 151) (G ((base 25).at ⟨T44_, []⟩ [.inRegion oc25bbba [0], .code c25bbbb]) _) _
  refine goes_mv (s := 4) (v := .nilIface) (o := oc25bbba[0]'(by decide)) (by rfl) (by rfl) (by k_ne) (.inr rfl) rfl rfl fun T46_ hT46_ d => ?_
  have sT46_ : T46_.size = 16 := by rw [hT46_]; simpa using sT44_
  have e4_46 : T46_.getD 4 undef = .nilIface := by rw [hT46_]; exact getD_same (by rw [sT44_]; decide)
  refine goes_same rfl (fun w => stepG_region_end) (fun d => ?_)
  refine goes_same rfl (fun w => stepG_ret') (fun d => ?_)
  refine Goes.step rfl fun w1 h1 => ?_
  obtain ⟨d2_47, rfl⟩ := h1
  refine goes_leave1 (t := 4) rfl rfl Tryz.func25 (by rfl) ⟨fun e he => by simp at he, ?_⟩
  simp only [e4_46, at_at]
  obtain ⟨T48_, hT48_⟩ : ∃ T48_, T48_ = T23_.setIfInBounds 17 (.nilIface) := ⟨_, rfl⟩
  have sT48_ : T48_.size = 101 := by rw [hT48_]; simpa using sT23_
  have e0_48 : T48_.getD 0 undef = .slice (some ⟨W.heap.size, 0, none⟩) 1 1 := by rw [hT48_, getD_ne (by decide)]; exact e0_23
  have e1_48 : T48_.getD 1 undef = .int .i64 2 := by rw [hT48_, getD_ne (by decide)]; exact e1_23
  have e17_48 : T48_.getD 17 undef = .nilIface := by rw [hT48_]; exact getD_same (by rw [sT23_]; decide)
  show Goes _ _ _ _ _ (n + 147) (G ((base 11).at ⟨T23_.setIfInBounds 17 (.nilIface), []⟩ [.inRegion oc11baa [3], .code c11bab, .code c11bb]) _) _
  rw [← hT48_]
  have r48 : ∀ i, shown i = true → i ≠ 7 → T48_.getD i undef = undef := fun i h1 h2 => by rw [hT48_, getD_ne (fun e => by subst e; exact absurd h1 (by decide))]; exact r23 i h1 h2
  refine goes_mv (s := 6) (v := .nilIface) (o := oc11baa[3]'(by decide)) (by rfl) (by rfl) (by k_ne) (.inr rfl) rfl e17_48 fun T50_ hT50_ d => ?_
  have sT50_ : T50_.size = 101 := by rw [hT50_]; simpa using sT48_
  have e0_50 : T50_.getD 0 undef = .slice (some ⟨W.heap.size, 0, none⟩) 1 1 := by rw [hT50_, getD_ne (by decide)]; exact e0_48
  have e1_50 : T50_.getD 1 undef = .int .i64 2 := by rw [hT50_, getD_ne (by decide)]; exact e1_48
  have e6_50 : T50_.getD 6 undef = .nilIface := by rw [hT50_]; exact getD_same (by rw [sT48_]; decide)
  have r50 : ∀ i, shown i = true → i ≠ 7 → T50_.getD i undef = undef := fun i h1 h2 => by rw [hT50_, getD_ne (fun e => by subst e; exact absurd h1 (by decide))]; exact r48 i h1 h2
  refine goes_same rfl (fun w => stepG_region_end) (fun d => ?_)
  refine goes_same rfl (fun w => stepG_seq) (fun d => ?_)
  refine goes_same rfl (fun w => stepG_region) (fun d => ?_)
  show Goes _ _ _ _ _ (n + 143) (G ((base 11).at ⟨T50_, []⟩ [.inRegion oc11baba [0, 1], .code c11babb, .code c11bb]) _) _
  refine goes_mv (s := 18) (v := .nilIface) (o := oc11baba[0]'(by decide)) (by rfl) (by rfl) (by k_ne) (.inl rfl) rfl e6_50 fun T52_ hT52_ d => ?_
  have sT52_ : T52_.size = 101 := by rw [hT52_]; simpa using sT50_
  have e0_52 : T52_.getD 0 undef = .slice (some ⟨W.heap.size, 0, none⟩) 1 1 := by rw [hT52_, getD_ne (by decide)]; exact e0_50
  have e1_52 : T52_.getD 1 undef = .int .i64 2 := by rw [hT52_, getD_ne (by decide)]; exact e1_50
  have e18_52 : T52_.getD 18 undef = .nilIface := by rw [hT52_]; exact getD_same (by rw [sT50_]; decide)
  have r52 : ∀ i, shown i = true → i ≠ 7 → T52_.getD i undef = undef := fun i h1 h2 => by rw [hT52_, getD_ne (fun e => by subst e; exact absurd h1 (by decide))]; exact r50 i h1 h2
  have eo53 : (oc11baba[1]'(by decide)).op = Op.binOp BinOp.neq 28 (Operand.tmp 18) (Operand.const Value.nilIface) 28 := by rfl
  refine goes_opr (v := .bool false) (o := oc11baba[1]'(by decide)) (by rfl) (by rfl) (by k_ne) (fun d => ?_) (fun d e he => ?_) (fun d => ?_)
  · show (execOp (Act.eval ⟨T52_, []⟩) _).run _ _ = _
    unfold execOp
    simp [eo53, go_sem, Act.eval, ← Array.getD_eq_getD_getElem?, e18_52]
  · rw [show (execOp (Act.eval ⟨T52_, []⟩) (oc11baba[1]'(by decide))) = _ from by unfold execOp; rw [eo53]] at he
    simp [eo53, go_sem, Act.eval, ← Array.getD_eq_getD_getElem?, e18_52] at he
  obtain ⟨T54_, hT54_⟩ : ∃ T54_, T54_ = T52_.setIfInBounds 19 (.bool false) := ⟨_, rfl⟩
  have sT54_ : T54_.size = 101 := by rw [hT54_]; simpa using sT52_
  have e0_54 : T54_.getD 0 undef = .slice (some ⟨W.heap.size, 0, none⟩) 1 1 := by rw [hT54_, getD_ne (by decide)]; exact e0_52
  have e1_54 : T54_.getD 1 undef = .int .i64 2 := by rw [hT54_, getD_ne (by decide)]; exact e1_52
  have e19_54 : T54_.getD 19 undef = .bool false := by rw [hT54_]; exact getD_same (by rw [sT52_]; decide)
  show Goes _ _ _ _ _ (n + 141) (G ((base 11).at ⟨T52_.setIfInBounds 19 (.bool false), []⟩ [.inRegion oc11baba [], .code c11babb, .code c11bb]) _) _
  rw [← hT54_]
  have r54 : ∀ i, shown i = true → i ≠ 7 → T54_.getD i undef = undef := fun i h1 h2 => by rw [hT54_, getD_ne (fun e => by subst e; exact absurd h1 (by decide))]; exact r52 i h1 h2
  refine goes_same rfl (fun w => stepG_region_end) (fun d => ?_)
  refine goes_same rfl (fun w => stepG_cond (t := false) e19_54) (fun d => ?_)
  refine goes_same rfl (fun w => stepG_skip) (fun d => ?_)
  refine goes_same rfl (fun w => stepG_seq) (fun d => ?_)
  refine goes_same rfl (fun w => stepG_region) (fun d => ?_)
  show Goes _ _ _ _ _ (n + 136) (G ((base 11).at ⟨T54_, []⟩ [.inRegion oc11bba [0, 1], .code c11bbb]) _) _
  have eo55 : (oc11bba[0]'(by decide)).op = Op.makeMap 81 none := by rfl
  refine goes_opn' (v := .map (some (W.heap.size + 1))) (ob := .map #[] 0) (o := oc11bba[0]'(by decide)) (by rfl) (by rfl) (by k_ne) (fun d => ?_) (fun d e he => ?_) (fun d => ?_)
  · show (execOp (Act.eval ⟨T54_, []⟩) _).run _ _ = _
    unfold execOp
    simp only [eo55, Act.eval, List.map_toArray, List.map_cons, List.map_nil, Option.map_none]
    exact (val_run (hmm _)).trans (by rw [size_after]; rfl)
  · rw [show (execOp (Act.eval ⟨T54_, []⟩) (oc11bba[0]'(by decide))) = _ from by unfold execOp; rw [eo55]] at he
    simp only [Act.eval, List.map_toArray, List.map_cons, List.map_nil, Option.map_none] at he
    rw [val_events (hmm _) (fun es => hmv _ es)] at he
    simp at he
  simp only [List.nil_append, List.cons_append, Nat.add_zero]
  obtain ⟨T56_, hT56_⟩ : ∃ T56_, T56_ = T54_.setIfInBounds 21 (.map (some (W.heap.size + 1))) := ⟨_, rfl⟩
  have sT56_ : T56_.size = 101 := by rw [hT56_]; simpa using sT54_
  have e0_56 : T56_.getD 0 undef = .slice (some ⟨W.heap.size, 0, none⟩) 1 1 := by rw [hT56_, getD_ne (by decide)]; exact e0_54
  have e1_56 : T56_.getD 1 undef = .int .i64 2 := by rw [hT56_, getD_ne (by decide)]; exact e1_54
  have e21_56 : T56_.getD 21 undef = .map (some (W.heap.size + 1)) := by rw [hT56_]; exact getD_same (by rw [sT54_]; decide)
  show Goes _ _ _ _ _ (n + 135) (G ((base 11).at ⟨T54_.setIfInBounds 21 (.map (some (W.heap.size + 1))), []⟩ [.inRegion oc11bba [1], .code c11bbb]) _) _
  rw [← hT56_]
  have r56 : ∀ i, shown i = true → i ≠ 7 → T56_.getD i undef = undef := fun i h1 h2 => by rw [hT56_, getD_ne (fun e => by subst e; exact absurd h1 (by decide))]; exact r54 i h1 h2
  refine goes_mv (s := 7) (v := .map (some (W.heap.size + 1))) (o := oc11bba[1]'(by decide)) (by rfl) (by rfl) (by k_ne) (.inr rfl) rfl e21_56 fun T58_ hT58_ d => ?_
  have sT58_ : T58_.size = 101 := by rw [hT58_]; simpa using sT56_
  have e0_58 : T58_.getD 0 undef = .slice (some ⟨W.heap.size, 0, none⟩) 1 1 := by rw [hT58_, getD_ne (by decide)]; exact e0_56
  have e1_58 : T58_.getD 1 undef = .int .i64 2 := by rw [hT58_, getD_ne (by decide)]; exact e1_56
  have e7_58 : T58_.getD 7 undef = .map (some (W.heap.size + 1)) := by rw [hT58_]; exact getD_same (by rw [sT56_]; decide)
  have r58 : ∀ i, shown i = true → i ≠ 7 → T58_.getD i undef = undef := fun i h1 h2 => by rw [hT58_, getD_ne (fun e => h2 e.symm)]; exact r56 i h1 h2
  refine goes_same rfl (fun w => stepG_region_end) (fun d => ?_)
  refine goes_same rfl (fun w => stepG_seq) (fun d => ?_)
  refine goes_same rfl (fun w => stepG_seq) (fun d => ?_)
  refine goes_same rfl (fun w => stepG_region) (fun d => ?_)
  show Goes _ _ _ _ _ (n + 130) (G ((base 11).at ⟨T58_, []⟩ [.inRegion oc11bbbaa [0, 1, 2], .code c11bbbab, .code c11bbbb]) _) _
  refine goes_mv (s := 22) (v := .slice (some ⟨W.heap.size, 0, none⟩) 1 1) (o := oc11bbbaa[0]'(by decide)) (by rfl) (by rfl) (by k_ne) (.inl rfl) rfl e0_58 fun T60_ hT60_ d => ?_
  have sT60_ : T60_.size = 101 := by rw [hT60_]; simpa using sT58_
  have e1_60 : T60_.getD 1 undef = .int .i64 2 := by rw [hT60_, getD_ne (by decide)]; exact e1_58
  have e7_60 : T60_.getD 7 undef = .map (some (W.heap.size + 1)) := by rw [hT60_, getD_ne (by decide)]; exact e7_58
  have e22_60 : T60_.getD 22 undef = .slice (some ⟨W.heap.size, 0, none⟩) 1 1 := by rw [hT60_]; exact getD_same (by rw [sT58_]; decide)
  have r60 : ∀ i, shown i = true → i ≠ 7 → T60_.getD i undef = undef := fun i h1 h2 => by rw [hT60_, getD_ne (fun e => by subst e; exact absurd h1 (by decide))]; exact r58 i h1 h2
  refine goes_mv (s := 23) (v := .int .i64 2) (o := oc11bbbaa[1]'(by decide)) (by rfl) (by rfl) (by k_ne) (.inl rfl) rfl e1_60 fun T62_ hT62_ d => ?_
  have sT62_ : T62_.size = 101 := by rw [hT62_]; simpa using sT60_
  have e7_62 : T62_.getD 7 undef = .map (some (W.heap.size + 1)) := by rw [hT62_, getD_ne (by decide)]; exact e7_60
  have e22_62 : T62_.getD 22 undef = .slice (some ⟨W.heap.size, 0, none⟩) 1 1 := by rw [hT62_, getD_ne (by decide)]; exact e22_60
  have e23_62 : T62_.getD 23 undef = .int .i64 2 := by rw [hT62_]; exact getD_same (by rw [sT60_]; decide)
  have r62 : ∀ i, shown i = true → i ≠ 7 → T62_.getD i undef = undef := fun i h1 h2 => by rw [hT62_, getD_ne (fun e => by subst e; exact absurd h1 (by decide))]; exact r60 i h1 h2
  obtain ⟨T63_, hT63_⟩ : ∃ T63_ : Array Value, T63_ = #[.slice (some ⟨W.heap.size, 0, none⟩) 1 1, .int .i64 2] ++ Array.replicate 16 undef := ⟨_, rfl⟩
  have sT63_ : T63_.size = 18 := by rw [hT63_]; simp
  refine goes_enter' (W := (after W [.cells #[.slice (some ⟨pb, 0, none⟩) 24 cp] 33, .map #[] 0]).at _) (by rfl) (by rfl) (by k_ne) (by rfl) Tryz.func26 nm26 (by rfl) (T' := T63_) (by rw [hT63_]; simp only [List.map_toArray, List.map_cons, List.map_nil, Act.eval, Tryz.ntmps26, List.size_toArray, List.length_cons, List.length_nil, Nat.reduceAdd, Nat.reduceSub, e22_62, e23_62]) (fun d => ?_)
  simp only [at_at]
  have e0_63 : T63_.getD 0 undef = .slice (some ⟨W.heap.size, 0, none⟩) 1 1 := by rw [hT63_]; simp [Array.getD_eq_getD_getElem?, Array.getElem?_append]
  have e1_63 : T63_.getD 1 undef = .int .i64 2 := by rw [hT63_]; simp [Array.getD_eq_getD_getElem?, Array.getElem?_append]
  show Goes _ _ _ _ _ (n + 127) (G ((base 26).at ⟨T63_, []⟩ [.code c26]) _) _
  refine goes_same rfl (fun w => stepG_seq) (fun d => ?_)
  refine goes_same rfl (fun w => stepG_region) (fun d => ?_)
  show Goes _ _ _ _ _ (n + 125) (G ((base 26).at ⟨T63_, []⟩ [.inRegion oc26a [0, 1], .code c26b]) _) _
  have eo64 : (oc26a[0]'(by decide)).op = Op.box 50 (Operand.tmp 0) := by rfl
  refine goes_opn' (v := .pointer (some ⟨W.heap.size + 2, 0, none⟩)) (ob := .cells #[.slice (some ⟨W.heap.size, 0, none⟩) 1 1] 50) (o := oc26a[0]'(by decide)) (by rfl) (by rfl) (by k_ne) (fun d => ?_) (fun d e he => ?_) (fun d => ?_)
  · show (execOp (Act.eval ⟨T63_, []⟩) _).run _ _ = _
    unfold execOp
    simp [eo64, go_sem, Act.eval, ← Array.getD_eq_getD_getElem?, e0_63, size_after]
  · rw [show (execOp (Act.eval ⟨T63_, []⟩) (oc26a[0]'(by decide))) = _ from by unfold execOp; rw [eo64]] at he
    simp [eo64, go_sem, Act.eval, ← Array.getD_eq_getD_getElem?, e0_63, size_after] at he
  simp only [List.nil_append, List.cons_append, Nat.add_zero]
  obtain ⟨T65_, hT65_⟩ : ∃ T65_, T65_ = T63_.setIfInBounds 2 (.pointer (some ⟨W.heap.size + 2, 0, none⟩)) := ⟨_, rfl⟩
  have sT65_ : T65_.size = 18 := by rw [hT65_]; simpa using sT63_
  have e1_65 : T65_.getD 1 undef = .int .i64 2 := by rw [hT65_, getD_ne (by decide)]; exact e1_63
  have e2_65 : T65_.getD 2 undef = .pointer (some ⟨W.heap.size + 2, 0, none⟩) := by rw [hT65_]; exact getD_same (by rw [sT63_]; decide)
  show Goes _ _ _ _ _ (n + 124) (G ((base 26).at ⟨T63_.setIfInBounds 2 (.pointer (some ⟨W.heap.size + 2, 0, none⟩)), []⟩ [.inRegion oc26a [1], .code c26b]) _) _
  rw [← hT65_]
  refine goes_mv (s := 4) (v := .chan none) (o := oc26a[1]'(by decide)) (by rfl) (by rfl) (by k_ne) (.inr rfl) rfl rfl fun T67_ hT67_ d => ?_
  have sT67_ : T67_.size = 18 := by rw [hT67_]; simpa using sT65_
  have e1_67 : T67_.getD 1 undef = .int .i64 2 := by rw [hT67_, getD_ne (by decide)]; exact e1_65
  have e2_67 : T67_.getD 2 undef = .pointer (some ⟨W.heap.size + 2, 0, none⟩) := by rw [hT67_, getD_ne (by decide)]; exact e2_65
  refine goes_same rfl (fun w => stepG_region_end) (fun d => ?_)
  refine goes_same rfl (fun w => stepG_seq) (fun d => ?_)
  refine goes_same rfl (fun w => stepG_region) (fun d => ?_)
  show Goes _ _ _ _ _ (n + 120) (G ((base 26).at ⟨T67_, []⟩ [.inRegion oc26ba [0, 1, 2, 3], .code c26bb]) _) _
  refine goes_mv (s := 8) (v := .int .i64 2) (o := oc26ba[0]'(by decide)) (by rfl) (by rfl) (by k_ne) (.inl rfl) rfl e1_67 fun T69_ hT69_ d => ?_
  have sT69_ : T69_.size = 18 := by rw [hT69_]; simpa using sT67_
  have e1_69 : T69_.getD 1 undef = .int .i64 2 := by rw [hT69_, getD_ne (by decide)]; exact e1_67
  have e2_69 : T69_.getD 2 undef = .pointer (some ⟨W.heap.size + 2, 0, none⟩) := by rw [hT69_, getD_ne (by decide)]; exact e2_67
  have e8_69 : T69_.getD 8 undef = .int .i64 2 := by rw [hT69_]; exact getD_same (by rw [sT67_]; decide)
  have eo70 : (oc26ba[1]'(by decide)).op = Op.makeChan 101 (Operand.tmp 8) := by rfl
  refine goes_opn' (v := .chan (some (W.heap.size + 3))) (ob := .chan 2 #[] false 0 0 false) (o := oc26ba[1]'(by decide)) (by rfl) (by rfl) (by k_ne) (fun d => ?_) (fun d e he => ?_) (fun d => ?_)
  · show (execOp (Act.eval ⟨T69_, []⟩) _).run _ _ = _
    unfold execOp
    simp only [eo70, Act.eval, List.map_toArray, List.map_cons, List.map_nil, Option.map_none, e8_69]
    exact (val_run (hmc _)).trans (by rw [size_after]; rfl)
  · rw [show (execOp (Act.eval ⟨T69_, []⟩) (oc26ba[1]'(by decide))) = _ from by unfold execOp; rw [eo70]] at he
    simp only [Act.eval, List.map_toArray, List.map_cons, List.map_nil, Option.map_none, e8_69] at he
    rw [val_events (hmc _) (fun es => hme _ es)] at he
    simp at he
  simp only [List.nil_append, List.cons_append, Nat.add_zero]
  obtain ⟨T71_, hT71_⟩ : ∃ T71_, T71_ = T69_.setIfInBounds 9 (.chan (some (W.heap.size + 3))) := ⟨_, rfl⟩
  have sT71_ : T71_.size = 18 := by rw [hT71_]; simpa using sT69_
  have e1_71 : T71_.getD 1 undef = .int .i64 2 := by rw [hT71_, getD_ne (by decide)]; exact e1_69
  have e2_71 : T71_.getD 2 undef = .pointer (some ⟨W.heap.size + 2, 0, none⟩) := by rw [hT71_, getD_ne (by decide)]; exact e2_69
  have e9_71 : T71_.getD 9 undef = .chan (some (W.heap.size + 3)) := by rw [hT71_]; exact getD_same (by rw [sT69_]; decide)
  show Goes _ _ _ _ _ (n + 118) (G ((base 26).at ⟨T69_.setIfInBounds 9 (.chan (some (W.heap.size + 3))), []⟩ [.inRegion oc26ba [2, 3], .code c26bb]) _) _
  rw [← hT71_]
  have eo72 : (oc26ba[2]'(by decide)).op = Op.alloc 101 := by rfl
  refine goes_opn' (v := .pointer (some ⟨W.heap.size + 4, 0, none⟩)) (ob := .cells #[.chan none] 101) (o := oc26ba[2]'(by decide)) (by rfl) (by rfl) (by k_ne) (fun d => ?_) (fun d e he => ?_) (fun d => ?_)
  · show (execOp (Act.eval ⟨T71_, []⟩) _).run _ _ = _
    unfold execOp
    simp [eo72, go_sem, Act.eval, ← Array.getD_eq_getD_getElem?, size_after]
  · rw [show (execOp (Act.eval ⟨T71_, []⟩) (oc26ba[2]'(by decide))) = _ from by unfold execOp; rw [eo72]] at he
    simp [eo72, go_sem, Act.eval, ← Array.getD_eq_getD_getElem?, size_after] at he
  simp only [List.nil_append, List.cons_append, Nat.add_zero]
  obtain ⟨T73_, hT73_⟩ : ∃ T73_, T73_ = T71_.setIfInBounds 5 (.pointer (some ⟨W.heap.size + 4, 0, none⟩)) := ⟨_, rfl⟩
  have sT73_ : T73_.size = 18 := by rw [hT73_]; simpa using sT71_
  have e1_73 : T73_.getD 1 undef = .int .i64 2 := by rw [hT73_, getD_ne (by decide)]; exact e1_71
  have e2_73 : T73_.getD 2 undef = .pointer (some ⟨W.heap.size + 2, 0, none⟩) := by rw [hT73_, getD_ne (by decide)]; exact e2_71
  have e9_73 : T73_.getD 9 undef = .chan (some (W.heap.size + 3)) := by rw [hT73_, getD_ne (by decide)]; exact e9_71
  have e5_73 : T73_.getD 5 undef = .pointer (some ⟨W.heap.size + 4, 0, none⟩) := by rw [hT73_]; exact getD_same (by rw [sT71_]; decide)
  show Goes _ _ _ _ _ (n + 117) (G ((base 26).at ⟨T71_.setIfInBounds 5 (.pointer (some ⟨W.heap.size + 4, 0, none⟩)), []⟩ [.inRegion oc26ba [3], .code c26bb]) _) _
  rw [← hT73_]
  have eo74 : (oc26ba[3]'(by decide)).op = Op.store 101 (Operand.tmp 5) (Operand.tmp 9) := by rfl
  have hcl := fun (d : Nat) => after_cell (W := W) (l := [.cells #[.slice (some ⟨pb, 0, none⟩) 24 cp] 33, .map #[] 0, .cells #[.slice (some ⟨W.heap.size, 0, none⟩) 1 1] 50, .chan 2 #[] false 0 0 false, .cells #[.chan none] 101]) (j := 4) (i := 0) (by rfl) (by rfl)
  have hfz := frozen_after (W := W) (L := [.cells #[.slice (some ⟨pb, 0, none⟩) 24 cp] 33, .map #[] 0, .cells #[.slice (some ⟨W.heap.size, 0, none⟩) 1 1] 50, .chan 2 #[] false 0 0 false, .cells #[.chan none] 101]) (j := 4) (i := 0) (by rfl)
  have hcl2 := fun (d : Nat) => show (((after W [.cells #[.slice (some ⟨pb, 0, none⟩) 24 cp] 33, .map #[] 0, .cells #[.slice (some ⟨W.heap.size, 0, none⟩) 1 1] 50, .chan 2 #[] false 0 0 false, .cells #[.chan none] 101]).at d).cell? ⟨W.heap.size + 4, 0, none⟩) = _ from hcl d
  have hfz2 := fun (d : Nat) => show (((after W [.cells #[.slice (some ⟨pb, 0, none⟩) 24 cp] 33, .map #[] 0, .cells #[.slice (some ⟨W.heap.size, 0, none⟩) 1 1] 50, .chan 2 #[] false 0 0 false, .cells #[.chan none] 101]).at d).frozen? ⟨W.heap.size + 4, 0, none⟩) = false from hfz
  refine goes_ops (j := 4) (q := 0) (v := .chan (some (W.heap.size + 3))) (o := oc26ba[3]'(by decide)) (by rfl) (by rfl) (by rfl) (by k_ne) (fun d => ?_) (fun d e he => ?_) (fun d => ?_)
  · show (execOp (Act.eval ⟨T73_, []⟩) _).run _ _ = _
    unfold execOp
    simp [eo74, go_sem, Act.eval, ← Array.getD_eq_getD_getElem?, hcl2, hfz2, e5_73, e9_73]
  · rw [show (execOp (Act.eval ⟨T73_, []⟩) (oc26ba[3]'(by decide))) = _ from by unfold execOp; rw [eo74]] at he
    simp [eo74, go_sem, Act.eval, ← Array.getD_eq_getD_getElem?, hcl2, hfz2, e5_73, e9_73] at he
    subst he
    exact hE.cell _ _ _ obc
  clear hcl hfz hcl2 hfz2
  simp only [List.set_cons_succ, List.set_cons_zero]
  show Goes _ _ _ _ _ (n + 116) (G ((base 26).at ⟨T73_, []⟩ [.inRegion oc26ba [], .code c26bb]) _) ((after W [.cells #[.slice (some ⟨pb, 0, none⟩) 24 cp] 33, .map #[] 0, .cells #[.slice (some ⟨W.heap.size, 0, none⟩) 1 1] 50, .chan 2 #[] false 0 0 false, .cells #[.chan (some (W.heap.size + 3))] 101]).at d)
  refine goes_same rfl (fun w => stepG_region_end) (fun d => ?_)
  refine goes_same rfl (fun w => stepG_seq) (fun d => ?_)
  refine goes_same rfl (fun w => stepG_region) (fun d => ?_)
  show Goes _ _ _ _ _ (n + 113) (G ((base 26).at ⟨T73_, []⟩ [.inRegion oc26bba [0], .code c26bbb]) _) _
  have eo75 : (oc26bba[0]'(by decide)).op = Op.alloc 106 := by rfl
  refine goes_opn' (v := .pointer (some ⟨W.heap.size + 5, 0, none⟩)) (ob := .cells #[.int .i64 0] 106) (o := oc26bba[0]'(by decide)) (by rfl) (by rfl) (by k_ne) (fun d => ?_) (fun d e he => ?_) (fun d => ?_)
  · show (execOp (Act.eval ⟨T73_, []⟩) _).run _ _ = _
    unfold execOp
    simp [eo75, go_sem, Act.eval, ← Array.getD_eq_getD_getElem?, size_after]
  · rw [show (execOp (Act.eval ⟨T73_, []⟩) (oc26bba[0]'(by decide))) = _ from by unfold execOp; rw [eo75]] at he
    simp [eo75, go_sem, Act.eval, ← Array.getD_eq_getD_getElem?, size_after] at he
  simp only [List.nil_append, List.cons_append, Nat.add_zero]
  obtain ⟨T76_, hT76_⟩ : ∃ T76_, T76_ = T73_.setIfInBounds 6 (.pointer (some ⟨W.heap.size + 5, 0, none⟩)) := ⟨_, rfl⟩
  have sT76_ : T76_.size = 18 := by rw [hT76_]; simpa using sT73_
  have e1_76 : T76_.getD 1 undef = .int .i64 2 := by rw [hT76_, getD_ne (by decide)]; exact e1_73
  have e2_76 : T76_.getD 2 undef = .pointer (some ⟨W.heap.size + 2, 0, none⟩) := by rw [hT76_, getD_ne (by decide)]; exact e2_73
  have e5_76 : T76_.getD 5 undef = .pointer (some ⟨W.heap.size + 4, 0, none⟩) := by rw [hT76_, getD_ne (by decide)]; exact e5_73
  have e6_76 : T76_.getD 6 undef = .pointer (some ⟨W.heap.size + 5, 0, none⟩) := by rw [hT76_]; exact getD_same (by rw [sT73_]; decide)
  show Goes _ _ _ _ _ (n + 112) (G ((base 26).at ⟨T73_.setIfInBounds 6 (.pointer (some ⟨W.heap.size + 5, 0, none⟩)), []⟩ [.inRegion oc26bba [], .code c26bbb]) _) _
  rw [← hT76_]
  refine goes_same rfl (fun w => stepG_region_end) (fun d => ?_)
  refine goes_same rfl (fun w => stepG_seq) (fun d => ?_)
  refine goes_same rfl (fun w => stepG_region) (fun d => ?_)
  show Goes _ _ _ _ _ (n + 109) (G ((base 26).at ⟨T76_, []⟩ [.inRegion oc26bbba [0], .code c26bbbb]) _) _
  have eo77 : (oc26bbba[0]'(by decide)).op = Op.alloc 111 := by rfl
  refine goes_opn' (v := .pointer (some ⟨W.heap.size + 6, 0, none⟩)) (ob := .cells #[.int .u64 0, .int .u32 0] 111) (o := oc26bbba[0]'(by decide)) (by rfl) (by rfl) (by k_ne) (fun d => ?_) (fun d e he => ?_) (fun d => ?_)
  · show (execOp (Act.eval ⟨T76_, []⟩) _).run _ _ = _
    unfold execOp
    simp [eo77, go_sem, Act.eval, ← Array.getD_eq_getD_getElem?, size_after]
  · rw [show (execOp (Act.eval ⟨T76_, []⟩) (oc26bbba[0]'(by decide))) = _ from by unfold execOp; rw [eo77]] at he
    simp [eo77, go_sem, Act.eval, ← Array.getD_eq_getD_getElem?, size_after] at he
  simp only [List.nil_append, List.cons_append, Nat.add_zero]
  obtain ⟨T78_, hT78_⟩ : ∃ T78_, T78_ = T76_.setIfInBounds 7 (.pointer (some ⟨W.heap.size + 6, 0, none⟩)) := ⟨_, rfl⟩
  have sT78_ : T78_.size = 18 := by rw [hT78_]; simpa using sT76_
  have e1_78 : T78_.getD 1 undef = .int .i64 2 := by rw [hT78_, getD_ne (by decide)]; exact e1_76
  have e2_78 : T78_.getD 2 undef = .pointer (some ⟨W.heap.size + 2, 0, none⟩) := by rw [hT78_, getD_ne (by decide)]; exact e2_76
  have e5_78 : T78_.getD 5 undef = .pointer (some ⟨W.heap.size + 4, 0, none⟩) := by rw [hT78_, getD_ne (by decide)]; exact e5_76
  have e6_78 : T78_.getD 6 undef = .pointer (some ⟨W.heap.size + 5, 0, none⟩) := by rw [hT78_, getD_ne (by decide)]; exact e6_76
  have e7_78 : T78_.getD 7 undef = .pointer (some ⟨W.heap.size + 6, 0, none⟩) := by rw [hT78_]; exact getD_same (by rw [sT76_]; decide)
  show Goes _ _ _ _ _ (n + 108) (G ((base 26).at ⟨T76_.setIfInBounds 7 (.pointer (some ⟨W.heap.size + 6, 0, none⟩)), []⟩ [.inRegion oc26bbba [], .code c26bbbb]) _) _
  rw [← hT78_]
  refine goes_same rfl (fun w => stepG_region_end) (fun d => ?_)
  refine goes_same rfl (fun w => stepG_seq) (fun d => ?_)
  refine goes_same rfl (fun w => stepG_seq) (fun d => ?_)
  refine goes_same rfl (fun w => stepG_region) (fun d => ?_)
  show Goes _ _ _ _ _ (n + 104) (G ((base 26).at ⟨T78_, []⟩ [.inRegion oc26bbbbaa [0, 1], .code c26bbbbab, .code c26bbbbb]) _) _
  refine goes_mv (s := 10) (v := .int .i64 2) (o := oc26bbbbaa[0]'(by decide)) (by rfl) (by rfl) (by k_ne) (.inl rfl) rfl e1_78 fun T80_ hT80_ d => ?_
  have sT80_ : T80_.size = 18 := by rw [hT80_]; simpa using sT78_
  have e2_80 : T80_.getD 2 undef = .pointer (some ⟨W.heap.size + 2, 0, none⟩) := by rw [hT80_, getD_ne (by decide)]; exact e2_78
  have e5_80 : T80_.getD 5 undef = .pointer (some ⟨W.heap.size + 4, 0, none⟩) := by rw [hT80_, getD_ne (by decide)]; exact e5_78
  have e6_80 : T80_.getD 6 undef = .pointer (some ⟨W.heap.size + 5, 0, none⟩) := by rw [hT80_, getD_ne (by decide)]; exact e6_78
  have e7_80 : T80_.getD 7 undef = .pointer (some ⟨W.heap.size + 6, 0, none⟩) := by rw [hT80_, getD_ne (by decide)]; exact e7_78
  have e10_80 : T80_.getD 10 undef = .int .i64 2 := by rw [hT80_]; exact getD_same (by rw [sT78_]; decide)
  refine goes_mv (s := 11) (v := .int .i64 0) (o := oc26bbbbaa[1]'(by decide)) (by rfl) (by rfl) (by k_ne) (.inl rfl) rfl rfl fun T82_ hT82_ d => ?_
  have sT82_ : T82_.size = 18 := by rw [hT82_]; simpa using sT80_
  have e2_82 : T82_.getD 2 undef = .pointer (some ⟨W.heap.size + 2, 0, none⟩) := by rw [hT82_, getD_ne (by decide)]; exact e2_80
  have e5_82 : T82_.getD 5 undef = .pointer (some ⟨W.heap.size + 4, 0, none⟩) := by rw [hT82_, getD_ne (by decide)]; exact e5_80
  have e6_82 : T82_.getD 6 undef = .pointer (some ⟨W.heap.size + 5, 0, none⟩) := by rw [hT82_, getD_ne (by decide)]; exact e6_80
  have e7_82 : T82_.getD 7 undef = .pointer (some ⟨W.heap.size + 6, 0, none⟩) := by rw [hT82_, getD_ne (by decide)]; exact e7_80
  have e10_82 : T82_.getD 10 undef = .int .i64 2 := by rw [hT82_, getD_ne (by decide)]; exact e10_80
  have e11_82 : T82_.getD 11 undef = .int .i64 0 := by rw [hT82_]; exact getD_same (by rw [sT80_]; decide)
  refine goes_same rfl (fun w => stepG_region_end) (fun d => ?_)
  refine goes_same rfl (fun w => stepG_block) (fun d => ?_)
  refine goes_same rfl (fun w => stepG_loop) (fun d => ?_)
  exact Goes.mono (hk _ _ _ _ sT14_ sT62_ sT82_ e1_14 e2_14 e7_62 r62 e2_82 e5_82 e6_82 e7_82 e10_82 e11_82) (by omega)
end
end Pool
end Go.Proofs.YtdkpbobglogmoaaGreat
namespace Go.Proofs.YtdkpbobglogmoaaGreat
open Go Ren
namespace Pool
def fsT : List Nat := [5, 6, 7, 8, 9, 12, 13, 14, 15, 16, 17, 18, 19, 20, 21, 22, 29, 30, 31, 32, 33, 34, 35, 36, 37, 48, 49, 50, 76, 10, 23, 24]
def fsB (f : Nat) : Bool := fsT.contains f
def glN (_ : Nat) : Bool := false
theorem fsT_ok : AllB Tryz.prog fsT (fun _ fn => okFn Tryz.prog glN fsB fn) = true := by kernel_rfl
theorem fsT_bare : AllB Tryz.prog fsT (fun _ fn => fn.body.isSome) = true := by kernel_rfl
theorem fragT (Z : Env) : Frag Tryz.prog glN fsB Z where
  fn f hf := all_at fsT_ok (List.contains_iff_mem.1 hf)
  ext f fn hf hfn hb := by
    obtain ⟨fn', e, this⟩ := all_at fsT_bare (List.contains_iff_mem.1 hf)
    rw [hfn] at e
    cases e
    rw [hb] at this
    cases this
theorem rest3_ok : okItem Tryz.prog glN fsB (.code c3bb) = true := by kernel_rfl
theorem rest3_sees : seesI (fun _ => false) (.code c3bb) = true := by kernel_rfl
end Pool
end Go.Proofs.YtdkpbobglogmoaaGreat
