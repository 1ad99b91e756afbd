/- Parts of the proof of TopCommandsProof: TopGo8 Fits ListLaw Mem Bytes Own Pick. -/
import Derived.Test.YtdkpbobglogmoaaGreatProg
import Derived.WalkSpells
import Derived.Deep.OwnRows
import Derived.Lib.Hide
import Derived.Lib.SliceRun
import Derived.WalkSmall
import Derived.Test.YtdkpbobglogmoaaGreatTk14
import Derived.Test.YtdkpbobglogmoaaGreatTk21
set_option linter.unusedVariables false
set_option linter.unusedSimpArgs false
set_option maxRecDepth 100000
set_option maxHeartbeats 32000000
namespace Go.Proofs.YtdkpbobglogmoaaGreat
open Go Go.Conc Go.RowKit Go.Conc.Lib
open Go.ConcX.Gen (at_at)
namespace Pool
section
variable {E : Event → Prop} {Ok : Nat → Prop} {Stop : Goroutine → World → Prop} {n : Nat} {W : World}
theorem go8 {T U : Array Value} {K : List Frame} {fb cf kb ko ck cb : Nat} {a0 a1 a3 a4 : Int} {vp vc : Value} (hE : Lets E Ok) (ofb : Ok fb) (sT : T.size = 51) (sU : U.size = 109) (e2 : T.getD 2 undef = .nilIface) (e3 : T.getD 3 undef = .slice (some ⟨fb, 0, none⟩) 1 cf) (e4 : T.getD 4 undef = .nilIface) (e21 : T.getD 21 undef = .tuple #[.slice (some ⟨kb, ko, none⟩) 3 ck, .nilIface])
    (t0 : U.getD 0 undef = .int .i64 a0) (t1 : U.getD 1 undef = .int .i64 a1) (t2 : U.getD 2 undef = vp) (t3 : U.getD 3 undef = .int .i64 a3) (t4 : U.getD 4 undef = .int .i64 a4) (t5 : U.getD 5 undef = vc) (t11 : U.getD 11 undef = .pointer (some ⟨cb, 0, none⟩)) (t12 : U.getD 12 undef = .bool false) (tr : ∀ i, late3 i = true → U.getD i undef = undef) (hf : W.cell? ⟨fb, 0, none⟩ = some (.int .i64 1))
    (hk : ∀ d T3, T3.size = 109 → T3.getD 0 undef = .int .i64 a0 → T3.getD 1 undef = .int .i64 a1 → T3.getD 2 undef = vp → T3.getD 3 undef = .int .i64 a3 → T3.getD 4 undef = .int .i64 a4 → T3.getD 5 undef = vc → T3.getD 11 undef = .pointer (some ⟨cb, 0, none⟩) → T3.getD 12 undef = .bool false → T3.getD 13 undef = .bool true → T3.getD 23 undef = .bool true → (∀ i, late3 i = true → T3.getD i undef = undef) →
      Goes Tryz.prog true Go.Conc.AtRel (DE E) Stop n (G ((base 3).at ⟨T3, []⟩ [.code c3bb]) K) (W.at d)) :
    Goes Tryz.prog true Go.Conc.AtRel (DE E) Stop (n + 160) (G ((base 4).at ⟨T, []⟩ [.inRegion oc4bbba [2, 3, 4, 5, 6], .code c4bbbb]) ((base 3).at ⟨U, []⟩ [.inRegion oc3ba [0, 1], .code c3bb] :: K)) W := by
  have hcell : ∀ d, ((after W []).at d).cell? ⟨fb, 0, none⟩ = some (.int .i64 1) := fun d => after_cell_old hf
  rw [show W = (after W []).at W.drawn by rw [after_nil]; rfl]
  refine goes_mv (s := 19) (v := .tuple #[.slice (some ⟨kb, ko, none⟩) 3 ck, .nilIface]) (o := oc4bbba[2]'(by decide)) (by rfl) (by rfl) (by k_ne) (.inl rfl) rfl e21 fun T2_ hT2_ d => ?_
  have sT2_ : T2_.size = 51 := by rw [hT2_]; simpa using sT
  have e2_2 : T2_.getD 2 undef = .nilIface := by rw [hT2_, getD_ne (by decide)]; exact e2
  have e3_2 : T2_.getD 3 undef = .slice (some ⟨fb, 0, none⟩) 1 cf := by rw [hT2_, getD_ne (by decide)]; exact e3
  have e4_2 : T2_.getD 4 undef = .nilIface := by rw [hT2_, getD_ne (by decide)]; exact e4
  have e19_2 : T2_.getD 19 undef = .tuple #[.slice (some ⟨kb, ko, none⟩) 3 ck, .nilIface] := by rw [hT2_]; exact getD_same (by rw [sT]; decide)
  have eo3 : (oc4bbba[3]'(by decide)).op = Op.extract (Operand.tmp 19) 0 := by rfl
  refine goes_opr (v := .slice (some ⟨kb, ko, none⟩) 3 ck) (o := oc4bbba[3]'(by decide)) (by rfl) (by rfl) (by k_ne) (fun d => ?_) (fun d e he => ?_) (fun d => ?_)
  · show (execOp (Act.eval ⟨T2_, []⟩) _).run _ _ = _
    unfold execOp
    simp [eo3, go_sem, Act.eval, ← Array.getD_eq_getD_getElem?, e19_2]
  · rw [show (execOp (Act.eval ⟨T2_, []⟩) (oc4bbba[3]'(by decide))) = _ from by unfold execOp; rw [eo3]] at he
    simp [eo3, go_sem, Act.eval, ← Array.getD_eq_getD_getElem?, e19_2] at he
  obtain ⟨T4_, hT4_⟩ : ∃ T4_, T4_ = T2_.setIfInBounds 22 (.slice (some ⟨kb, ko, none⟩) 3 ck) := ⟨_, rfl⟩
  have sT4_ : T4_.size = 51 := by rw [hT4_]; simpa using sT2_
  have e2_4 : T4_.getD 2 undef = .nilIface := by rw [hT4_, getD_ne (by decide)]; exact e2_2
  have e3_4 : T4_.getD 3 undef = .slice (some ⟨fb, 0, none⟩) 1 cf := by rw [hT4_, getD_ne (by decide)]; exact e3_2
  have e4_4 : T4_.getD 4 undef = .nilIface := by rw [hT4_, getD_ne (by decide)]; exact e4_2
  have e19_4 : T4_.getD 19 undef = .tuple #[.slice (some ⟨kb, ko, none⟩) 3 ck, .nilIface] := by rw [hT4_, getD_ne (by decide)]; exact e19_2
  have e22_4 : T4_.getD 22 undef = .slice (some ⟨kb, ko, none⟩) 3 ck := by rw [hT4_]; exact getD_same (by rw [sT2_]; decide)
  show Goes _ _ _ _ _ (n + 158) (G ((base 4).at ⟨T2_.setIfInBounds 22 (.slice (some ⟨kb, ko, none⟩) 3 ck), []⟩ [.inRegion oc4bbba [4, 5, 6], .code c4bbbb]) _) _
  rw [← hT4_]
  have eo5 : (oc4bbba[4]'(by decide)).op = Op.extract (Operand.tmp 19) 1 := by rfl
  refine goes_opr (v := .nilIface) (o := oc4bbba[4]'(by decide)) (by rfl) (by rfl) (by k_ne) (fun d => ?_) (fun d e he => ?_) (fun d => ?_)
  · show (execOp (Act.eval ⟨T4_, []⟩) _).run _ _ = _
    unfold execOp
    simp [eo5, go_sem, Act.eval, ← Array.getD_eq_getD_getElem?, e19_4]
  · rw [show (execOp (Act.eval ⟨T4_, []⟩) (oc4bbba[4]'(by decide))) = _ from by unfold execOp; rw [eo5]] at he
    simp [eo5, go_sem, Act.eval, ← Array.getD_eq_getD_getElem?, e19_4] at he
  obtain ⟨T6_, hT6_⟩ : ∃ T6_, T6_ = T4_.setIfInBounds 23 (.nilIface) := ⟨_, rfl⟩
  have sT6_ : T6_.size = 51 := by rw [hT6_]; simpa using sT4_
  have e2_6 : T6_.getD 2 undef = .nilIface := by rw [hT6_, getD_ne (by decide)]; exact e2_4
  have e3_6 : T6_.getD 3 undef = .slice (some ⟨fb, 0, none⟩) 1 cf := by rw [hT6_, getD_ne (by decide)]; exact e3_4
  have e4_6 : T6_.getD 4 undef = .nilIface := by rw [hT6_, getD_ne (by decide)]; exact e4_4
  have e22_6 : T6_.getD 22 undef = .slice (some ⟨kb, ko, none⟩) 3 ck := by rw [hT6_, getD_ne (by decide)]; exact e22_4
  have e23_6 : T6_.getD 23 undef = .nilIface := by rw [hT6_]; exact getD_same (by rw [sT4_]; decide)
  show Goes _ _ _ _ _ (n + 157) (G ((base 4).at ⟨T4_.setIfInBounds 23 (.nilIface), []⟩ [.inRegion oc4bbba [5, 6], .code c4bbbb]) _) _
  rw [← hT6_]
  refine goes_mv (s := 5) (v := .slice (some ⟨kb, ko, none⟩) 3 ck) (o := oc4bbba[5]'(by decide)) (by rfl) (by rfl) (by k_ne) (.inr rfl) rfl e22_6 fun T8_ hT8_ d => ?_
  have sT8_ : T8_.size = 51 := by rw [hT8_]; simpa using sT6_
  have e2_8 : T8_.getD 2 undef = .nilIface := by rw [hT8_, getD_ne (by decide)]; exact e2_6
  have e3_8 : T8_.getD 3 undef = .slice (some ⟨fb, 0, none⟩) 1 cf := by rw [hT8_, getD_ne (by decide)]; exact e3_6
  have e4_8 : T8_.getD 4 undef = .nilIface := by rw [hT8_, getD_ne (by decide)]; exact e4_6
  have e23_8 : T8_.getD 23 undef = .nilIface := by rw [hT8_, getD_ne (by decide)]; exact e23_6
  have e5_8 : T8_.getD 5 undef = .slice (some ⟨kb, ko, none⟩) 3 ck := by rw [hT8_]; exact getD_same (by rw [sT6_]; decide)
  refine goes_mv (s := 6) (v := .nilIface) (o := oc4bbba[6]'(by decide)) (by rfl) (by rfl) (by k_ne) (.inr rfl) rfl e23_8 fun T10_ hT10_ d => ?_
  have sT10_ : T10_.size = 51 := by rw [hT10_]; simpa using sT8_
  have e2_10 : T10_.getD 2 undef = .nilIface := by rw [hT10_, getD_ne (by decide)]; exact e2_8
  have e3_10 : T10_.getD 3 undef = .slice (some ⟨fb, 0, none⟩) 1 cf := by rw [hT10_, getD_ne (by decide)]; exact e3_8
  have e4_10 : T10_.getD 4 undef = .nilIface := by rw [hT10_, getD_ne (by decide)]; exact e4_8
  have e5_10 : T10_.getD 5 undef = .slice (some ⟨kb, ko, none⟩) 3 ck := by rw [hT10_, getD_ne (by decide)]; exact e5_8
  have e6_10 : T10_.getD 6 undef = .nilIface := by rw [hT10_]; exact getD_same (by rw [sT8_]; decide)
  refine goes_same rfl (fun w => stepG_region_end) (fun d => ?_)
  refine goes_same rfl (fun w => stepG_seq) (fun d => ?_)
  refine goes_same rfl (fun w => stepG_region) (fun d => ?_)
  show Goes _ _ _ _ _ (n + 152) (G ((base 4).at ⟨T10_, []⟩ [.inRegion oc4bbbba [0, 1, 2, 3, 4, 5, 6, 7, 8, 9, 10, 11, 12, 13, 14, 15, 16, 17, 18, 19, 20, 21, 22, 23, 24, 25, 26, 27], .code c4bbbbb]) _) _
  refine goes_mv (s := 24) (v := .nilIface) (o := oc4bbbba[0]'(by decide)) (by rfl) (by rfl) (by k_ne) (.inl rfl) rfl e2_10 fun T12_ hT12_ d => ?_
  have sT12_ : T12_.size = 51 := by rw [hT12_]; simpa using sT10_
  have e3_12 : T12_.getD 3 undef = .slice (some ⟨fb, 0, none⟩) 1 cf := by rw [hT12_, getD_ne (by decide)]; exact e3_10
  have e4_12 : T12_.getD 4 undef = .nilIface := by rw [hT12_, getD_ne (by decide)]; exact e4_10
  have e5_12 : T12_.getD 5 undef = .slice (some ⟨kb, ko, none⟩) 3 ck := by rw [hT12_, getD_ne (by decide)]; exact e5_10
  have e6_12 : T12_.getD 6 undef = .nilIface := by rw [hT12_, getD_ne (by decide)]; exact e6_10
  have e24_12 : T12_.getD 24 undef = .nilIface := by rw [hT12_]; exact getD_same (by rw [sT10_]; decide)
  have eo13 : (oc4bbbba[1]'(by decide)).op = Op.binOp BinOp.eql 28 (Operand.tmp 24) (Operand.const Value.nilIface) 28 := by rfl
  refine goes_opr (v := .bool true) (o := oc4bbbba[1]'(by decide)) (by rfl) (by rfl) (by k_ne) (fun d => ?_) (fun d e he => ?_) (fun d => ?_)
  · show (execOp (Act.eval ⟨T12_, []⟩) _).run _ _ = _
    unfold execOp
    simp [eo13, go_sem, Act.eval, ← Array.getD_eq_getD_getElem?, e24_12]
  · rw [show (execOp (Act.eval ⟨T12_, []⟩) (oc4bbbba[1]'(by decide))) = _ from by unfold execOp; rw [eo13]] at he
    simp [eo13, go_sem, Act.eval, ← Array.getD_eq_getD_getElem?, e24_12] at he
  obtain ⟨T14_, hT14_⟩ : ∃ T14_, T14_ = T12_.setIfInBounds 25 (.bool true) := ⟨_, rfl⟩
  have sT14_ : T14_.size = 51 := by rw [hT14_]; simpa using sT12_
  have e3_14 : T14_.getD 3 undef = .slice (some ⟨fb, 0, none⟩) 1 cf := by rw [hT14_, getD_ne (by decide)]; exact e3_12
  have e4_14 : T14_.getD 4 undef = .nilIface := by rw [hT14_, getD_ne (by decide)]; exact e4_12
  have e5_14 : T14_.getD 5 undef = .slice (some ⟨kb, ko, none⟩) 3 ck := by rw [hT14_, getD_ne (by decide)]; exact e5_12
  have e6_14 : T14_.getD 6 undef = .nilIface := by rw [hT14_, getD_ne (by decide)]; exact e6_12
  have e25_14 : T14_.getD 25 undef = .bool true := by rw [hT14_]; exact getD_same (by rw [sT12_]; decide)
  show Goes _ _ _ _ _ (n + 150) (G ((base 4).at ⟨T12_.setIfInBounds 25 (.bool true), []⟩ [.inRegion oc4bbbba [2, 3, 4, 5, 6, 7, 8, 9, 10, 11, 12, 13, 14, 15, 16, 17, 18, 19, 20, 21, 22, 23, 24, 25, 26, 27], .code c4bbbbb]) _) _
  rw [← hT14_]
  refine goes_mv (s := 26) (v := .bool true) (o := oc4bbbba[2]'(by decide)) (by rfl) (by rfl) (by k_ne) (.inl rfl) rfl e25_14 fun T16_ hT16_ d => ?_
  have sT16_ : T16_.size = 51 := by rw [hT16_]; simpa using sT14_
  have e3_16 : T16_.getD 3 undef = .slice (some ⟨fb, 0, none⟩) 1 cf := by rw [hT16_, getD_ne (by decide)]; exact e3_14
  have e4_16 : T16_.getD 4 undef = .nilIface := by rw [hT16_, getD_ne (by decide)]; exact e4_14
  have e5_16 : T16_.getD 5 undef = .slice (some ⟨kb, ko, none⟩) 3 ck := by rw [hT16_, getD_ne (by decide)]; exact e5_14
  have e6_16 : T16_.getD 6 undef = .nilIface := by rw [hT16_, getD_ne (by decide)]; exact e6_14
  have e26_16 : T16_.getD 26 undef = .bool true := by rw [hT16_]; exact getD_same (by rw [sT14_]; decide)
  refine goes_mv (s := 27) (v := .nilIface) (o := oc4bbbba[3]'(by decide)) (by rfl) (want_of (j := 2) (s := 26) (b := true) (by rfl) (by rfl) (by rw [sT16_]; decide) e26_16) (by k_ne) (.inl rfl) rfl e4_16 fun T18_ hT18_ d => ?_
  have sT18_ : T18_.size = 51 := by rw [hT18_]; simpa using sT16_
  have e3_18 : T18_.getD 3 undef = .slice (some ⟨fb, 0, none⟩) 1 cf := by rw [hT18_, getD_ne (by decide)]; exact e3_16
  have e5_18 : T18_.getD 5 undef = .slice (some ⟨kb, ko, none⟩) 3 ck := by rw [hT18_, getD_ne (by decide)]; exact e5_16
  have e6_18 : T18_.getD 6 undef = .nilIface := by rw [hT18_, getD_ne (by decide)]; exact e6_16
  have e26_18 : T18_.getD 26 undef = .bool true := by rw [hT18_, getD_ne (by decide)]; exact e26_16
  have e27_18 : T18_.getD 27 undef = .nilIface := by rw [hT18_]; exact getD_same (by rw [sT16_]; decide)
  have eo19 : (oc4bbbba[4]'(by decide)).op = Op.binOp BinOp.eql 28 (Operand.tmp 27) (Operand.const Value.nilIface) 28 := by rfl
  refine goes_opr (v := .bool true) (o := oc4bbbba[4]'(by decide)) (by rfl) (want_of (j := 2) (s := 26) (b := true) (by rfl) (by rfl) (by rw [sT18_]; decide) e26_18) (by k_ne) (fun d => ?_) (fun d e he => ?_) (fun d => ?_)
  · show (execOp (Act.eval ⟨T18_, []⟩) _).run _ _ = _
    unfold execOp
    simp [eo19, go_sem, Act.eval, ← Array.getD_eq_getD_getElem?, e27_18]
  · rw [show (execOp (Act.eval ⟨T18_, []⟩) (oc4bbbba[4]'(by decide))) = _ from by unfold execOp; rw [eo19]] at he
    simp [eo19, go_sem, Act.eval, ← Array.getD_eq_getD_getElem?, e27_18] at he
  obtain ⟨T20_, hT20_⟩ : ∃ T20_, T20_ = T18_.setIfInBounds 28 (.bool true) := ⟨_, rfl⟩
  have sT20_ : T20_.size = 51 := by rw [hT20_]; simpa using sT18_
  have e3_20 : T20_.getD 3 undef = .slice (some ⟨fb, 0, none⟩) 1 cf := by rw [hT20_, getD_ne (by decide)]; exact e3_18
  have e5_20 : T20_.getD 5 undef = .slice (some ⟨kb, ko, none⟩) 3 ck := by rw [hT20_, getD_ne (by decide)]; exact e5_18
  have e6_20 : T20_.getD 6 undef = .nilIface := by rw [hT20_, getD_ne (by decide)]; exact e6_18
  have e26_20 : T20_.getD 26 undef = .bool true := by rw [hT20_, getD_ne (by decide)]; exact e26_18
  have e28_20 : T20_.getD 28 undef = .bool true := by rw [hT20_]; exact getD_same (by rw [sT18_]; decide)
  show Goes _ _ _ _ _ (n + 147) (G ((base 4).at ⟨T18_.setIfInBounds 28 (.bool true), []⟩ [.inRegion oc4bbbba [5, 6, 7, 8, 9, 10, 11, 12, 13, 14, 15, 16, 17, 18, 19, 20, 21, 22, 23, 24, 25, 26, 27], .code c4bbbbb]) _) _
  rw [← hT20_]
  have eo21 : (oc4bbbba[5]'(by decide)).op = Op.pick (Operand.tmp 26) (Operand.tmp 28) (Operand.const (Value.bool false)) := by rfl
  refine goes_opr (v := .bool true) (o := oc4bbbba[5]'(by decide)) (by rfl) (by rfl) (by k_ne) (fun d => ?_) (fun d e he => ?_) (fun d => ?_)
  · show (execOp (Act.eval ⟨T20_, []⟩) _).run _ _ = _
    unfold execOp
    simp [eo21, go_sem, Act.eval, ← Array.getD_eq_getD_getElem?, e26_20, e28_20]
  · rw [show (execOp (Act.eval ⟨T20_, []⟩) (oc4bbbba[5]'(by decide))) = _ from by unfold execOp; rw [eo21]] at he
    simp [eo21, go_sem, Act.eval, ← Array.getD_eq_getD_getElem?, e26_20, e28_20] at he
  obtain ⟨T22_, hT22_⟩ : ∃ T22_, T22_ = T20_.setIfInBounds 29 (.bool true) := ⟨_, rfl⟩
  have sT22_ : T22_.size = 51 := by rw [hT22_]; simpa using sT20_
  have e3_22 : T22_.getD 3 undef = .slice (some ⟨fb, 0, none⟩) 1 cf := by rw [hT22_, getD_ne (by decide)]; exact e3_20
  have e5_22 : T22_.getD 5 undef = .slice (some ⟨kb, ko, none⟩) 3 ck := by rw [hT22_, getD_ne (by decide)]; exact e5_20
  have e6_22 : T22_.getD 6 undef = .nilIface := by rw [hT22_, getD_ne (by decide)]; exact e6_20
  have e29_22 : T22_.getD 29 undef = .bool true := by rw [hT22_]; exact getD_same (by rw [sT20_]; decide)
  show Goes _ _ _ _ _ (n + 146) (G ((base 4).at ⟨T20_.setIfInBounds 29 (.bool true), []⟩ [.inRegion oc4bbbba [6, 7, 8, 9, 10, 11, 12, 13, 14, 15, 16, 17, 18, 19, 20, 21, 22, 23, 24, 25, 26, 27], .code c4bbbbb]) _) _
  rw [← hT22_]
  refine goes_mv (s := 30) (v := .bool true) (o := oc4bbbba[6]'(by decide)) (by rfl) (by rfl) (by k_ne) (.inl rfl) rfl e29_22 fun T24_ hT24_ d => ?_
  have sT24_ : T24_.size = 51 := by rw [hT24_]; simpa using sT22_
  have e3_24 : T24_.getD 3 undef = .slice (some ⟨fb, 0, none⟩) 1 cf := by rw [hT24_, getD_ne (by decide)]; exact e3_22
  have e5_24 : T24_.getD 5 undef = .slice (some ⟨kb, ko, none⟩) 3 ck := by rw [hT24_, getD_ne (by decide)]; exact e5_22
  have e6_24 : T24_.getD 6 undef = .nilIface := by rw [hT24_, getD_ne (by decide)]; exact e6_22
  have e30_24 : T24_.getD 30 undef = .bool true := by rw [hT24_]; exact getD_same (by rw [sT22_]; decide)
  refine goes_mv (s := 31) (v := .nilIface) (o := oc4bbbba[7]'(by decide)) (by rfl) (want_of (j := 6) (s := 30) (b := true) (by rfl) (by rfl) (by rw [sT24_]; decide) e30_24) (by k_ne) (.inl rfl) rfl e6_24 fun T26_ hT26_ d => ?_
  have sT26_ : T26_.size = 51 := by rw [hT26_]; simpa using sT24_
  have e3_26 : T26_.getD 3 undef = .slice (some ⟨fb, 0, none⟩) 1 cf := by rw [hT26_, getD_ne (by decide)]; exact e3_24
  have e5_26 : T26_.getD 5 undef = .slice (some ⟨kb, ko, none⟩) 3 ck := by rw [hT26_, getD_ne (by decide)]; exact e5_24
  have e30_26 : T26_.getD 30 undef = .bool true := by rw [hT26_, getD_ne (by decide)]; exact e30_24
  have e31_26 : T26_.getD 31 undef = .nilIface := by rw [hT26_]; exact getD_same (by rw [sT24_]; decide)
  have eo27 : (oc4bbbba[8]'(by decide)).op = Op.binOp BinOp.eql 28 (Operand.tmp 31) (Operand.const Value.nilIface) 28 := by rfl
  refine goes_opr (v := .bool true) (o := oc4bbbba[8]'(by decide)) (by rfl) (want_of (j := 6) (s := 30) (b := true) (by rfl) (by rfl) (by rw [sT26_]; decide) e30_26) (by k_ne) (fun d => ?_) (fun d e he => ?_) (fun d => ?_)
  · show (execOp (Act.eval ⟨T26_, []⟩) _).run _ _ = _
    unfold execOp
    simp [eo27, go_sem, Act.eval, ← Array.getD_eq_getD_getElem?, e31_26]
  · rw [show (execOp (Act.eval ⟨T26_, []⟩) (oc4bbbba[8]'(by decide))) = _ from by unfold execOp; rw [eo27]] at he
    simp [eo27, go_sem, Act.eval, ← Array.getD_eq_getD_getElem?, e31_26] at he
  obtain ⟨T28_, hT28_⟩ : ∃ T28_, T28_ = T26_.setIfInBounds 32 (.bool true) := ⟨_, rfl⟩
  have sT28_ : T28_.size = 51 := by rw [hT28_]; simpa using sT26_
  have e3_28 : T28_.getD 3 undef = .slice (some ⟨fb, 0, none⟩) 1 cf := by rw [hT28_, getD_ne (by decide)]; exact e3_26
  have e5_28 : T28_.getD 5 undef = .slice (some ⟨kb, ko, none⟩) 3 ck := by rw [hT28_, getD_ne (by decide)]; exact e5_26
  have e30_28 : T28_.getD 30 undef = .bool true := by rw [hT28_, getD_ne (by decide)]; exact e30_26
  have e32_28 : T28_.getD 32 undef = .bool true := by rw [hT28_]; exact getD_same (by rw [sT26_]; decide)
  show Goes _ _ _ _ _ (n + 143) (G ((base 4).at ⟨T26_.setIfInBounds 32 (.bool true), []⟩ [.inRegion oc4bbbba [9, 10, 11, 12, 13, 14, 15, 16, 17, 18, 19, 20, 21, 22, 23, 24, 25, 26, 27], .code c4bbbbb]) _) _
  rw [← hT28_]
  have eo29 : (oc4bbbba[9]'(by decide)).op = Op.pick (Operand.tmp 30) (Operand.tmp 32) (Operand.const (Value.bool false)) := by rfl
  refine goes_opr (v := .bool true) (o := oc4bbbba[9]'(by decide)) (by rfl) (by rfl) (by k_ne) (fun d => ?_) (fun d e he => ?_) (fun d => ?_)
  · show (execOp (Act.eval ⟨T28_, []⟩) _).run _ _ = _
    unfold execOp
    simp [eo29, go_sem, Act.eval, ← Array.getD_eq_getD_getElem?, e30_28, e32_28]
  · rw [show (execOp (Act.eval ⟨T28_, []⟩) (oc4bbbba[9]'(by decide))) = _ from by unfold execOp; rw [eo29]] at he
    simp [eo29, go_sem, Act.eval, ← Array.getD_eq_getD_getElem?, e30_28, e32_28] at he
  obtain ⟨T30_, hT30_⟩ : ∃ T30_, T30_ = T28_.setIfInBounds 33 (.bool true) := ⟨_, rfl⟩
  have sT30_ : T30_.size = 51 := by rw [hT30_]; simpa using sT28_
  have e3_30 : T30_.getD 3 undef = .slice (some ⟨fb, 0, none⟩) 1 cf := by rw [hT30_, getD_ne (by decide)]; exact e3_28
  have e5_30 : T30_.getD 5 undef = .slice (some ⟨kb, ko, none⟩) 3 ck := by rw [hT30_, getD_ne (by decide)]; exact e5_28
  have e33_30 : T30_.getD 33 undef = .bool true := by rw [hT30_]; exact getD_same (by rw [sT28_]; decide)
  show Goes _ _ _ _ _ (n + 142) (G ((base 4).at ⟨T28_.setIfInBounds 33 (.bool true), []⟩ [.inRegion oc4bbbba [10, 11, 12, 13, 14, 15, 16, 17, 18, 19, 20, 21, 22, 23, 24, 25, 26, 27], .code c4bbbbb]) _) _
  rw [← hT30_]
  refine goes_mv (s := 34) (v := .bool true) (o := oc4bbbba[10]'(by decide)) (by rfl) (by rfl) (by k_ne) (.inl rfl) rfl e33_30 fun T32_ hT32_ d => ?_
  have sT32_ : T32_.size = 51 := by rw [hT32_]; simpa using sT30_
  have e3_32 : T32_.getD 3 undef = .slice (some ⟨fb, 0, none⟩) 1 cf := by rw [hT32_, getD_ne (by decide)]; exact e3_30
  have e5_32 : T32_.getD 5 undef = .slice (some ⟨kb, ko, none⟩) 3 ck := by rw [hT32_, getD_ne (by decide)]; exact e5_30
  have e34_32 : T32_.getD 34 undef = .bool true := by rw [hT32_]; exact getD_same (by rw [sT30_]; decide)
  refine goes_mv (s := 35) (v := .slice (some ⟨fb, 0, none⟩) 1 cf) (o := oc4bbbba[11]'(by decide)) (by rfl) (want_of (j := 10) (s := 34) (b := true) (by rfl) (by rfl) (by rw [sT32_]; decide) e34_32) (by k_ne) (.inl rfl) rfl e3_32 fun T34_ hT34_ d => ?_
  have sT34_ : T34_.size = 51 := by rw [hT34_]; simpa using sT32_
  have e3_34 : T34_.getD 3 undef = .slice (some ⟨fb, 0, none⟩) 1 cf := by rw [hT34_, getD_ne (by decide)]; exact e3_32
  have e5_34 : T34_.getD 5 undef = .slice (some ⟨kb, ko, none⟩) 3 ck := by rw [hT34_, getD_ne (by decide)]; exact e5_32
  have e34_34 : T34_.getD 34 undef = .bool true := by rw [hT34_, getD_ne (by decide)]; exact e34_32
  have e35_34 : T34_.getD 35 undef = .slice (some ⟨fb, 0, none⟩) 1 cf := by rw [hT34_]; exact getD_same (by rw [sT32_]; decide)
  have eo35 : (oc4bbbba[12]'(by decide)).op = Op.call { callee := Callee.builtin Builtin.len, args := #[Operand.tmp 35], argTypes := #[47] } := by rfl
  refine goes_opr (v := .int .i64 1) (o := oc4bbbba[12]'(by decide)) (by rfl) (want_of (j := 10) (s := 34) (b := true) (by rfl) (by rfl) (by rw [sT34_]; decide) e34_34) (by k_ne) (fun d => ?_) (fun d e he => ?_) (fun d => ?_)
  · show (execOp (Act.eval ⟨T34_, []⟩) _).run _ _ = _
    unfold execOp
    simp [eo35, go_sem, Act.eval, ← Array.getD_eq_getD_getElem?, e35_34, goInt]
  · rw [show (execOp (Act.eval ⟨T34_, []⟩) (oc4bbbba[12]'(by decide))) = _ from by unfold execOp; rw [eo35]] at he
    simp [eo35, go_sem, Act.eval, ← Array.getD_eq_getD_getElem?, e35_34, goInt] at he
  obtain ⟨T36_, hT36_⟩ : ∃ T36_, T36_ = T34_.setIfInBounds 36 (.int .i64 1) := ⟨_, rfl⟩
  have sT36_ : T36_.size = 51 := by rw [hT36_]; simpa using sT34_
  have e3_36 : T36_.getD 3 undef = .slice (some ⟨fb, 0, none⟩) 1 cf := by rw [hT36_, getD_ne (by decide)]; exact e3_34
  have e5_36 : T36_.getD 5 undef = .slice (some ⟨kb, ko, none⟩) 3 ck := by rw [hT36_, getD_ne (by decide)]; exact e5_34
  have e34_36 : T36_.getD 34 undef = .bool true := by rw [hT36_, getD_ne (by decide)]; exact e34_34
  have e36_36 : T36_.getD 36 undef = .int .i64 1 := by rw [hT36_]; exact getD_same (by rw [sT34_]; decide)
  show Goes _ _ _ _ _ (n + 139) (G ((base 4).at ⟨T34_.setIfInBounds 36 (.int .i64 1), []⟩ [.inRegion oc4bbbba [13, 14, 15, 16, 17, 18, 19, 20, 21, 22, 23, 24, 25, 26, 27], .code c4bbbbb]) _) _
  rw [← hT36_]
  have eo37 : (oc4bbbba[13]'(by decide)).op = Op.binOp BinOp.eql 3 (Operand.tmp 36) (Operand.const (Value.int IntKind.i64 1)) 3 := by rfl
  refine goes_opr (v := .bool true) (o := oc4bbbba[13]'(by decide)) (by rfl) (want_of (j := 10) (s := 34) (b := true) (by rfl) (by rfl) (by rw [sT36_]; decide) e34_36) (by k_ne) (fun d => ?_) (fun d e he => ?_) (fun d => ?_)
  · show (execOp (Act.eval ⟨T36_, []⟩) _).run _ _ = _
    unfold execOp
    simp [eo37, go_sem, Act.eval, ← Array.getD_eq_getD_getElem?, e36_36]
  · rw [show (execOp (Act.eval ⟨T36_, []⟩) (oc4bbbba[13]'(by decide))) = _ from by unfold execOp; rw [eo37]] at he
    simp [eo37, go_sem, Act.eval, ← Array.getD_eq_getD_getElem?, e36_36] at he
  obtain ⟨T38_, hT38_⟩ : ∃ T38_, T38_ = T36_.setIfInBounds 37 (.bool true) := ⟨_, rfl⟩
  have sT38_ : T38_.size = 51 := by rw [hT38_]; simpa using sT36_
  have e3_38 : T38_.getD 3 undef = .slice (some ⟨fb, 0, none⟩) 1 cf := by rw [hT38_, getD_ne (by decide)]; exact e3_36
  have e5_38 : T38_.getD 5 undef = .slice (some ⟨kb, ko, none⟩) 3 ck := by rw [hT38_, getD_ne (by decide)]; exact e5_36
  have e34_38 : T38_.getD 34 undef = .bool true := by rw [hT38_, getD_ne (by decide)]; exact e34_36
  have e37_38 : T38_.getD 37 undef = .bool true := by rw [hT38_]; exact getD_same (by rw [sT36_]; decide)
  show Goes _ _ _ _ _ (n + 138) (G ((base 4).at ⟨T36_.setIfInBounds 37 (.bool true), []⟩ [.inRegion oc4bbbba [14, 15, 16, 17, 18, 19, 20, 21, 22, 23, 24, 25, 26, 27], .code c4bbbbb]) _) _
  rw [← hT38_]
  have eo39 : (oc4bbbba[14]'(by decide)).op = Op.pick (Operand.tmp 34) (Operand.tmp 37) (Operand.const (Value.bool false)) := by rfl
  refine goes_opr (v := .bool true) (o := oc4bbbba[14]'(by decide)) (by rfl) (by rfl) (by k_ne) (fun d => ?_) (fun d e he => ?_) (fun d => ?_)
  · show (execOp (Act.eval ⟨T38_, []⟩) _).run _ _ = _
    unfold execOp
    simp [eo39, go_sem, Act.eval, ← Array.getD_eq_getD_getElem?, e34_38, e37_38]
  · rw [show (execOp (Act.eval ⟨T38_, []⟩) (oc4bbbba[14]'(by decide))) = _ from by unfold execOp; rw [eo39]] at he
    simp [eo39, go_sem, Act.eval, ← Array.getD_eq_getD_getElem?, e34_38, e37_38] at he
  obtain ⟨T40_, hT40_⟩ : ∃ T40_, T40_ = T38_.setIfInBounds 38 (.bool true) := ⟨_, rfl⟩
  have sT40_ : T40_.size = 51 := by rw [hT40_]; simpa using sT38_
  have e3_40 : T40_.getD 3 undef = .slice (some ⟨fb, 0, none⟩) 1 cf := by rw [hT40_, getD_ne (by decide)]; exact e3_38
  have e5_40 : T40_.getD 5 undef = .slice (some ⟨kb, ko, none⟩) 3 ck := by rw [hT40_, getD_ne (by decide)]; exact e5_38
  have e38_40 : T40_.getD 38 undef = .bool true := by rw [hT40_]; exact getD_same (by rw [sT38_]; decide)
  show Goes _ _ _ _ _ (n + 137) (G ((base 4).at ⟨T38_.setIfInBounds 38 (.bool true), []⟩ [.inRegion oc4bbbba [15, 16, 17, 18, 19, 20, 21, 22, 23, 24, 25, 26, 27], .code c4bbbbb]) _) _
  rw [← hT40_]
  refine goes_mv (s := 39) (v := .bool true) (o := oc4bbbba[15]'(by decide)) (by rfl) (by rfl) (by k_ne) (.inl rfl) rfl e38_40 fun T42_ hT42_ d => ?_
  have sT42_ : T42_.size = 51 := by rw [hT42_]; simpa using sT40_
  have e3_42 : T42_.getD 3 undef = .slice (some ⟨fb, 0, none⟩) 1 cf := by rw [hT42_, getD_ne (by decide)]; exact e3_40
  have e5_42 : T42_.getD 5 undef = .slice (some ⟨kb, ko, none⟩) 3 ck := by rw [hT42_, getD_ne (by decide)]; exact e5_40
  have e39_42 : T42_.getD 39 undef = .bool true := by rw [hT42_]; exact getD_same (by rw [sT40_]; decide)
  refine goes_mv (s := 40) (v := .slice (some ⟨fb, 0, none⟩) 1 cf) (o := oc4bbbba[16]'(by decide)) (by rfl) (want_of (j := 15) (s := 39) (b := true) (by rfl) (by rfl) (by rw [sT42_]; decide) e39_42) (by k_ne) (.inl rfl) rfl e3_42 fun T44_ hT44_ d => ?_
  have sT44_ : T44_.size = 51 := by rw [hT44_]; simpa using sT42_
  have e5_44 : T44_.getD 5 undef = .slice (some ⟨kb, ko, none⟩) 3 ck := by rw [hT44_, getD_ne (by decide)]; exact e5_42
  have e39_44 : T44_.getD 39 undef = .bool true := by rw [hT44_, getD_ne (by decide)]; exact e39_42
  have e40_44 : T44_.getD 40 undef = .slice (some ⟨fb, 0, none⟩) 1 cf := by rw [hT44_]; exact getD_same (by rw [sT42_]; decide)
  have eo45 : (oc4bbbba[17]'(by decide)).op = Op.indexAddr 47 (Operand.tmp 40) (Operand.const (Value.int IntKind.i64 0)) := by rfl
  refine goes_opr (v := .pointer (some ⟨fb, 0, none⟩)) (o := oc4bbbba[17]'(by decide)) (by rfl) (want_of (j := 15) (s := 39) (b := true) (by rfl) (by rfl) (by rw [sT44_]; decide) e39_44) (by k_ne) (fun d => ?_) (fun d e he => ?_) (fun d => ?_)
  · show (execOp (Act.eval ⟨T44_, []⟩) _).run _ _ = _
    unfold execOp
    simp [eo45, go_sem, Act.eval, ← Array.getD_eq_getD_getElem?, e40_44]
  · rw [show (execOp (Act.eval ⟨T44_, []⟩) (oc4bbbba[17]'(by decide))) = _ from by unfold execOp; rw [eo45]] at he
    simp [eo45, go_sem, Act.eval, ← Array.getD_eq_getD_getElem?, e40_44] at he
  obtain ⟨T46_, hT46_⟩ : ∃ T46_, T46_ = T44_.setIfInBounds 41 (.pointer (some ⟨fb, 0, none⟩)) := ⟨_, rfl⟩
  have sT46_ : T46_.size = 51 := by rw [hT46_]; simpa using sT44_
  have e5_46 : T46_.getD 5 undef = .slice (some ⟨kb, ko, none⟩) 3 ck := by rw [hT46_, getD_ne (by decide)]; exact e5_44
  have e39_46 : T46_.getD 39 undef = .bool true := by rw [hT46_, getD_ne (by decide)]; exact e39_44
  have e41_46 : T46_.getD 41 undef = .pointer (some ⟨fb, 0, none⟩) := by rw [hT46_]; exact getD_same (by rw [sT44_]; decide)
  show Goes _ _ _ _ _ (n + 134) (G ((base 4).at ⟨T44_.setIfInBounds 41 (.pointer (some ⟨fb, 0, none⟩)), []⟩ [.inRegion oc4bbbba [18, 19, 20, 21, 22, 23, 24, 25, 26, 27], .code c4bbbbb]) _) _
  rw [← hT46_]
  have eo47 : (oc4bbbba[18]'(by decide)).op = Op.fieldAddr 53 (Operand.tmp 41) 0 := by rfl
  refine goes_opr (v := .pointer (some ⟨fb, 0, none⟩)) (o := oc4bbbba[18]'(by decide)) (by rfl) (want_of (j := 15) (s := 39) (b := true) (by rfl) (by rfl) (by rw [sT46_]; decide) e39_46) (by k_ne) (fun d => ?_) (fun d e he => ?_) (fun d => ?_)
  · show (execOp (Act.eval ⟨T46_, []⟩) _).run _ _ = _
    unfold execOp
    simp [eo47, go_sem, Act.eval, ← Array.getD_eq_getD_getElem?, e41_46]
  · rw [show (execOp (Act.eval ⟨T46_, []⟩) (oc4bbbba[18]'(by decide))) = _ from by unfold execOp; rw [eo47]] at he
    simp [eo47, go_sem, Act.eval, ← Array.getD_eq_getD_getElem?, e41_46] at he
  obtain ⟨T48_, hT48_⟩ : ∃ T48_, T48_ = T46_.setIfInBounds 42 (.pointer (some ⟨fb, 0, none⟩)) := ⟨_, rfl⟩
  have sT48_ : T48_.size = 51 := by rw [hT48_]; simpa using sT46_
  have e5_48 : T48_.getD 5 undef = .slice (some ⟨kb, ko, none⟩) 3 ck := by rw [hT48_, getD_ne (by decide)]; exact e5_46
  have e39_48 : T48_.getD 39 undef = .bool true := by rw [hT48_, getD_ne (by decide)]; exact e39_46
  have e42_48 : T48_.getD 42 undef = .pointer (some ⟨fb, 0, none⟩) := by rw [hT48_]; exact getD_same (by rw [sT46_]; decide)
  show Goes _ _ _ _ _ (n + 133) (G ((base 4).at ⟨T46_.setIfInBounds 42 (.pointer (some ⟨fb, 0, none⟩)), []⟩ [.inRegion oc4bbbba [19, 20, 21, 22, 23, 24, 25, 26, 27], .code c4bbbbb]) _) _
  rw [← hT48_]
  have eo49 : (oc4bbbba[19]'(by decide)).op = Op.load 3 (Operand.tmp 42) := by rfl
  refine goes_opr (v := .int .i64 1) (o := oc4bbbba[19]'(by decide)) (by rfl) (want_of (j := 15) (s := 39) (b := true) (by rfl) (by rfl) (by rw [sT48_]; decide) e39_48) (by k_ne) (fun d => ?_) (fun d e he => ?_) (fun d => ?_)
  · show (execOp (Act.eval ⟨T48_, []⟩) _).run _ _ = _
    unfold execOp
    simp [eo49, go_sem, Act.eval, ← Array.getD_eq_getD_getElem?, e42_48, hcell]
  · rw [show (execOp (Act.eval ⟨T48_, []⟩) (oc4bbbba[19]'(by decide))) = _ from by unfold execOp; rw [eo49]] at he
    simp [eo49, go_sem, Act.eval, ← Array.getD_eq_getD_getElem?, e42_48, hcell] at he
    subst he
    exact hE.cell _ _ _ ofb
  obtain ⟨T50_, hT50_⟩ : ∃ T50_, T50_ = T48_.setIfInBounds 43 (.int .i64 1) := ⟨_, rfl⟩
  have sT50_ : T50_.size = 51 := by rw [hT50_]; simpa using sT48_
  have e5_50 : T50_.getD 5 undef = .slice (some ⟨kb, ko, none⟩) 3 ck := by rw [hT50_, getD_ne (by decide)]; exact e5_48
  have e39_50 : T50_.getD 39 undef = .bool true := by rw [hT50_, getD_ne (by decide)]; exact e39_48
  have e43_50 : T50_.getD 43 undef = .int .i64 1 := by rw [hT50_]; exact getD_same (by rw [sT48_]; decide)
  show Goes _ _ _ _ _ (n + 132) (G ((base 4).at ⟨T48_.setIfInBounds 43 (.int .i64 1), []⟩ [.inRegion oc4bbbba [20, 21, 22, 23, 24, 25, 26, 27], .code c4bbbbb]) _) _
  rw [← hT50_]
  have eo51 : (oc4bbbba[20]'(by decide)).op = Op.binOp BinOp.eql 3 (Operand.tmp 43) (Operand.const (Value.int IntKind.i64 1)) 3 := by rfl
  refine goes_opr (v := .bool true) (o := oc4bbbba[20]'(by decide)) (by rfl) (want_of (j := 15) (s := 39) (b := true) (by rfl) (by rfl) (by rw [sT50_]; decide) e39_50) (by k_ne) (fun d => ?_) (fun d e he => ?_) (fun d => ?_)
  · show (execOp (Act.eval ⟨T50_, []⟩) _).run _ _ = _
    unfold execOp
    simp [eo51, go_sem, Act.eval, ← Array.getD_eq_getD_getElem?, e43_50]
  · rw [show (execOp (Act.eval ⟨T50_, []⟩) (oc4bbbba[20]'(by decide))) = _ from by unfold execOp; rw [eo51]] at he
    simp [eo51, go_sem, Act.eval, ← Array.getD_eq_getD_getElem?, e43_50] at he
  obtain ⟨T52_, hT52_⟩ : ∃ T52_, T52_ = T50_.setIfInBounds 44 (.bool true) := ⟨_, rfl⟩
  have sT52_ : T52_.size = 51 := by rw [hT52_]; simpa using sT50_
  have e5_52 : T52_.getD 5 undef = .slice (some ⟨kb, ko, none⟩) 3 ck := by rw [hT52_, getD_ne (by decide)]; exact e5_50
  have e39_52 : T52_.getD 39 undef = .bool true := by rw [hT52_, getD_ne (by decide)]; exact e39_50
  have e44_52 : T52_.getD 44 undef = .bool true := by rw [hT52_]; exact getD_same (by rw [sT50_]; decide)
  show Goes _ _ _ _ _ (n + 131) (G ((base 4).at ⟨T50_.setIfInBounds 44 (.bool true), []⟩ [.inRegion oc4bbbba [21, 22, 23, 24, 25, 26, 27], .code c4bbbbb]) _) _
  rw [← hT52_]
  have eo53 : (oc4bbbba[21]'(by decide)).op = Op.pick (Operand.tmp 39) (Operand.tmp 44) (Operand.const (Value.bool false)) := by rfl
  refine goes_opr (v := .bool true) (o := oc4bbbba[21]'(by decide)) (by rfl) (by rfl) (by k_ne) (fun d => ?_) (fun d e he => ?_) (fun d => ?_)
  · show (execOp (Act.eval ⟨T52_, []⟩) _).run _ _ = _
    unfold execOp
    simp [eo53, go_sem, Act.eval, ← Array.getD_eq_getD_getElem?, e39_52, e44_52]
  · rw [show (execOp (Act.eval ⟨T52_, []⟩) (oc4bbbba[21]'(by decide))) = _ from by unfold execOp; rw [eo53]] at he
    simp [eo53, go_sem, Act.eval, ← Array.getD_eq_getD_getElem?, e39_52, e44_52] at he
  obtain ⟨T54_, hT54_⟩ : ∃ T54_, T54_ = T52_.setIfInBounds 45 (.bool true) := ⟨_, rfl⟩
  have sT54_ : T54_.size = 51 := by rw [hT54_]; simpa using sT52_
  have e5_54 : T54_.getD 5 undef = .slice (some ⟨kb, ko, none⟩) 3 ck := by rw [hT54_, getD_ne (by decide)]; exact e5_52
  have e45_54 : T54_.getD 45 undef = .bool true := by rw [hT54_]; exact getD_same (by rw [sT52_]; decide)
  show Goes _ _ _ _ _ (n + 130) (G ((base 4).at ⟨T52_.setIfInBounds 45 (.bool true), []⟩ [.inRegion oc4bbbba [22, 23, 24, 25, 26, 27], .code c4bbbbb]) _) _
  rw [← hT54_]
  refine goes_mv (s := 46) (v := .bool true) (o := oc4bbbba[22]'(by decide)) (by rfl) (by rfl) (by k_ne) (.inl rfl) rfl e45_54 fun T56_ hT56_ d => ?_
  have sT56_ : T56_.size = 51 := by rw [hT56_]; simpa using sT54_
  have e5_56 : T56_.getD 5 undef = .slice (some ⟨kb, ko, none⟩) 3 ck := by rw [hT56_, getD_ne (by decide)]; exact e5_54
  have e46_56 : T56_.getD 46 undef = .bool true := by rw [hT56_]; exact getD_same (by rw [sT54_]; decide)
  refine goes_mv (s := 47) (v := .slice (some ⟨kb, ko, none⟩) 3 ck) (o := oc4bbbba[23]'(by decide)) (by rfl) (want_of (j := 22) (s := 46) (b := true) (by rfl) (by rfl) (by rw [sT56_]; decide) e46_56) (by k_ne) (.inl rfl) rfl e5_56 fun T58_ hT58_ d => ?_
  have sT58_ : T58_.size = 51 := by rw [hT58_]; simpa using sT56_
  have e46_58 : T58_.getD 46 undef = .bool true := by rw [hT58_, getD_ne (by decide)]; exact e46_56
  have e47_58 : T58_.getD 47 undef = .slice (some ⟨kb, ko, none⟩) 3 ck := by rw [hT58_]; exact getD_same (by rw [sT56_]; decide)
  have eo59 : (oc4bbbba[24]'(by decide)).op = Op.call { callee := Callee.builtin Builtin.len, args := #[Operand.tmp 47], argTypes := #[33] } := by rfl
  refine goes_opr (v := .int .i64 3) (o := oc4bbbba[24]'(by decide)) (by rfl) (want_of (j := 22) (s := 46) (b := true) (by rfl) (by rfl) (by rw [sT58_]; decide) e46_58) (by k_ne) (fun d => ?_) (fun d e he => ?_) (fun d => ?_)
  · show (execOp (Act.eval ⟨T58_, []⟩) _).run _ _ = _
    unfold execOp
    simp [eo59, go_sem, Act.eval, ← Array.getD_eq_getD_getElem?, e47_58, goInt]
  · rw [show (execOp (Act.eval ⟨T58_, []⟩) (oc4bbbba[24]'(by decide))) = _ from by unfold execOp; rw [eo59]] at he
    simp [eo59, go_sem, Act.eval, ← Array.getD_eq_getD_getElem?, e47_58, goInt] at he
  obtain ⟨T60_, hT60_⟩ : ∃ T60_, T60_ = T58_.setIfInBounds 48 (.int .i64 3) := ⟨_, rfl⟩
  have sT60_ : T60_.size = 51 := by rw [hT60_]; simpa using sT58_
  have e46_60 : T60_.getD 46 undef = .bool true := by rw [hT60_, getD_ne (by decide)]; exact e46_58
  have e48_60 : T60_.getD 48 undef = .int .i64 3 := by rw [hT60_]; exact getD_same (by rw [sT58_]; decide)
  show Goes _ _ _ _ _ (n + 127) (G ((base 4).at ⟨T58_.setIfInBounds 48 (.int .i64 3), []⟩ [.inRegion oc4bbbba [25, 26, 27], .code c4bbbbb]) _) _
  rw [← hT60_]
  have eo61 : (oc4bbbba[25]'(by decide)).op = Op.binOp BinOp.eql 3 (Operand.tmp 48) (Operand.const (Value.int IntKind.i64 3)) 3 := by rfl
  refine goes_opr (v := .bool true) (o := oc4bbbba[25]'(by decide)) (by rfl) (want_of (j := 22) (s := 46) (b := true) (by rfl) (by rfl) (by rw [sT60_]; decide) e46_60) (by k_ne) (fun d => ?_) (fun d e he => ?_) (fun d => ?_)
  · show (execOp (Act.eval ⟨T60_, []⟩) _).run _ _ = _
    unfold execOp
    simp [eo61, go_sem, Act.eval, ← Array.getD_eq_getD_getElem?, e48_60]
  · rw [show (execOp (Act.eval ⟨T60_, []⟩) (oc4bbbba[25]'(by decide))) = _ from by unfold execOp; rw [eo61]] at he
    simp [eo61, go_sem, Act.eval, ← Array.getD_eq_getD_getElem?, e48_60] at he
  obtain ⟨T62_, hT62_⟩ : ∃ T62_, T62_ = T60_.setIfInBounds 49 (.bool true) := ⟨_, rfl⟩
  have sT62_ : T62_.size = 51 := by rw [hT62_]; simpa using sT60_
  have e46_62 : T62_.getD 46 undef = .bool true := by rw [hT62_, getD_ne (by decide)]; exact e46_60
  have e49_62 : T62_.getD 49 undef = .bool true := by rw [hT62_]; exact getD_same (by rw [sT60_]; decide)
  show Goes _ _ _ _ _ (n + 126) (G ((base 4).at ⟨T60_.setIfInBounds 49 (.bool true), []⟩ [.inRegion oc4bbbba [26, 27], .code c4bbbbb]) _) _
  rw [← hT62_]
  have eo63 : (oc4bbbba[26]'(by decide)).op = Op.pick (Operand.tmp 46) (Operand.tmp 49) (Operand.const (Value.bool false)) := by rfl
  refine goes_opr (v := .bool true) (o := oc4bbbba[26]'(by decide)) (by rfl) (by rfl) (by k_ne) (fun d => ?_) (fun d e he => ?_) (fun d => ?_)
  · show (execOp (Act.eval ⟨T62_, []⟩) _).run _ _ = _
    unfold execOp
    simp [eo63, go_sem, Act.eval, ← Array.getD_eq_getD_getElem?, e46_62, e49_62]
  · rw [show (execOp (Act.eval ⟨T62_, []⟩) (oc4bbbba[26]'(by decide))) = _ from by unfold execOp; rw [eo63]] at he
    simp [eo63, go_sem, Act.eval, ← Array.getD_eq_getD_getElem?, e46_62, e49_62] at he
  obtain ⟨T64_, hT64_⟩ : ∃ T64_, T64_ = T62_.setIfInBounds 50 (.bool true) := ⟨_, rfl⟩
  have sT64_ : T64_.size = 51 := by rw [hT64_]; simpa using sT62_
  have e50_64 : T64_.getD 50 undef = .bool true := by rw [hT64_]; exact getD_same (by rw [sT62_]; decide)
  show Goes _ _ _ _ _ (n + 125) (G ((base 4).at ⟨T62_.setIfInBounds 50 (.bool true), []⟩ [.inRegion oc4bbbba [27], .code c4bbbbb]) _) _
  rw [← hT64_]
  refine goes_mv (s := 0) (v := .bool true) (o := oc4bbbba[27]'(by decide)) (by rfl) (by rfl) (by k_ne) (.inr rfl) rfl e50_64 fun T66_ hT66_ d => ?_
  have sT66_ : T66_.size = 51 := by rw [hT66_]; simpa using sT64_
  have e0_66 : T66_.getD 0 undef = .bool true := by rw [hT66_]; exact getD_same (by rw [sT64_]; decide)
  refine goes_same rfl (fun w => stepG_region_end) (fun d => ?_)
  refine goes_same rfl (fun w => stepG_ret') (fun d => ?_)
  refine Goes.step rfl fun w1 h1 => ?_
  obtain ⟨d2_67, rfl⟩ := h1
  refine goes_leave1 (t := 0) rfl rfl Tryz.func4 (by rfl) ⟨fun e he => by simp at he, ?_⟩
  simp only [e0_66, at_at]
  obtain ⟨T68_, hT68_⟩ : ∃ T68_, T68_ = U.setIfInBounds 23 (.bool true) := ⟨_, rfl⟩
  have sT68_ : T68_.size = 109 := by rw [hT68_]; simpa using sU
  have e0_68 : T68_.getD 0 undef = .int .i64 a0 := by rw [hT68_, getD_ne (by decide)]; exact t0
  have e1_68 : T68_.getD 1 undef = .int .i64 a1 := by rw [hT68_, getD_ne (by decide)]; exact t1
  have e2_68 : T68_.getD 2 undef = vp := by rw [hT68_, getD_ne (by decide)]; exact t2
  have e3_68 : T68_.getD 3 undef = .int .i64 a3 := by rw [hT68_, getD_ne (by decide)]; exact t3
  have e4_68 : T68_.getD 4 undef = .int .i64 a4 := by rw [hT68_, getD_ne (by decide)]; exact t4
  have e5_68 : T68_.getD 5 undef = vc := by rw [hT68_, getD_ne (by decide)]; exact t5
  have e11_68 : T68_.getD 11 undef = .pointer (some ⟨cb, 0, none⟩) := by rw [hT68_, getD_ne (by decide)]; exact t11
  have e12_68 : T68_.getD 12 undef = .bool false := by rw [hT68_, getD_ne (by decide)]; exact t12
  have e23_68 : T68_.getD 23 undef = .bool true := by rw [hT68_]; exact getD_same (by rw [sU]; decide)
  show Goes _ _ _ _ _ (n + 121) (G ((base 3).at ⟨U.setIfInBounds 23 (.bool true), []⟩ [.inRegion oc3ba [1], .code c3bb]) _) _
  rw [← hT68_]
  have q68 : ∀ i, late3 i = true → T68_.getD i undef = undef := fun i h1 => by rw [hT68_, getD_ne (fun e => by subst e; exact absurd h1 (by decide))]; exact tr i h1
  refine goes_mv (s := 13) (v := .bool true) (o := oc3ba[1]'(by decide)) (by rfl) (by rfl) (by k_ne) (.inr rfl) rfl e23_68 fun T70_ hT70_ d => ?_
  have sT70_ : T70_.size = 109 := by rw [hT70_]; simpa using sT68_
  have e0_70 : T70_.getD 0 undef = .int .i64 a0 := by rw [hT70_, getD_ne (by decide)]; exact e0_68
  have e1_70 : T70_.getD 1 undef = .int .i64 a1 := by rw [hT70_, getD_ne (by decide)]; exact e1_68
  have e2_70 : T70_.getD 2 undef = vp := by rw [hT70_, getD_ne (by decide)]; exact e2_68
  have e3_70 : T70_.getD 3 undef = .int .i64 a3 := by rw [hT70_, getD_ne (by decide)]; exact e3_68
  have e4_70 : T70_.getD 4 undef = .int .i64 a4 := by rw [hT70_, getD_ne (by decide)]; exact e4_68
  have e5_70 : T70_.getD 5 undef = vc := by rw [hT70_, getD_ne (by decide)]; exact e5_68
  have e11_70 : T70_.getD 11 undef = .pointer (some ⟨cb, 0, none⟩) := by rw [hT70_, getD_ne (by decide)]; exact e11_68
  have e12_70 : T70_.getD 12 undef = .bool false := by rw [hT70_, getD_ne (by decide)]; exact e12_68
  have e23_70 : T70_.getD 23 undef = .bool true := by rw [hT70_, getD_ne (by decide)]; exact e23_68
  have e13_70 : T70_.getD 13 undef = .bool true := by rw [hT70_]; exact getD_same (by rw [sT68_]; decide)
  have q70 : ∀ i, late3 i = true → T70_.getD i undef = undef := fun i h1 => by rw [hT70_, getD_ne (fun e => by subst e; exact absurd h1 (by decide))]; exact q68 i h1
  refine goes_same rfl (fun w => stepG_region_end) (fun d => ?_)
  have := hk d _ sT70_ e0_70 e1_70 e2_70 e3_70 e4_70 e5_70 e11_70 e12_70 e13_70 e23_70 q70
  rw [show (after W []).at d = W.at d by rw [after_nil]]
  exact Goes.mono this (by omega)
end
end Pool
end Go.Proofs.YtdkpbobglogmoaaGreat
namespace Go.Proofs.YtdkpbobglogmoaaGreat
def memFits (size : Nat) (at_ n : Int) : Bool := decide (0 ≤ at_ ∧ 0 ≤ n ∧ n ≤ size ∧ at_ ≤ size - n)
def numOk (ys : List Int) : Bool := decide (leNum ys ≤ 4611686018427387904)
def numRd (bs : List Int) (p : Int) : Option Int := if memFits bs.length p 8 && numOk ((bs.drop p.toNat).take 8) then some (leNum ((bs.drop p.toNat).take 8)) else none
def pageOk (x : Int) : Bool := decide (0 ≤ x ∧ x % 64 = 0)
end Go.Proofs.YtdkpbobglogmoaaGreat
namespace Go.Proofs.YtdkpbobglogmoaaGreat
def listRun (bs : List Int) : Nat → Int → Int → List (Int × Int) → Int × List (Int × Int)
  | 0, _, left, segs => if left ≤ 0 then (0, segs) else (1, [])
  | f + 1, at_, left, segs =>
    if left ≤ 0 then (0, segs) else
    match numRd bs at_ with
    | none => (1, [])
    | some x =>
      if pageOk x = false then (2, []) else
      if at_ % 64 = 56 ∧ 64 < left then listRun bs f x left segs else
      if memFits bs.length x (min 64 left) then listRun bs f (at_ + 8) (left - min 64 left) (segs ++ [(x, min 64 left)]) else (1, [])
def listMost (at_ left : Int) : Nat := (2 * left).toNat + (if at_ % 64 = 56 then 1 else 0)
def walkRes (bs : List Int) (first second long : Int) : Int × List (Int × Int) :=
  if long < 1 ∨ 2048 < long then (1, []) else
  if first % 4 ≠ 0 then (2, []) else
  if first < 0 then (1, []) else
  if memFits bs.length first (min (64 - first % 64) long) = false then (1, []) else
  if long - min (64 - first % 64) long ≤ 0 then (0, [(first, min (64 - first % 64) long)]) else
  if long - min (64 - first % 64) long ≤ 64 then
    (if pageOk second = false then (2, []) else
     if memFits bs.length second (long - min (64 - first % 64) long) then (0, [(first, min (64 - first % 64) long), (second, long - min (64 - first % 64) long)]) else (1, [])) else
  if second < 0 ∨ second % 8 ≠ 0 then (2, []) else
  listRun bs (listMost second (long - min (64 - first % 64) long)) second (long - min (64 - first % 64) long) [(first, min (64 - first % 64) long)]
def segOk (L : Nat) (s : Int × Int) : Prop := memFits L s.1 s.2 = true ∧ 1 ≤ s.2 ∧ s.1 / 64 = (s.1 + s.2 - 1) / 64
def segSum (l : List (Int × Int)) : Int := (l.map (·.2)).sum
theorem segSum_append (a b : List (Int × Int)) : segSum (a ++ b) = segSum a + segSum b := by simp [segSum]
theorem memFits_iff (L : Nat) (p n : Int) : memFits L p n = true ↔ 0 ≤ p ∧ 0 ≤ n ∧ n ≤ L ∧ p ≤ L - n := by unfold memFits; simp
theorem pageOk_iff (x : Int) : pageOk x = true ↔ 0 ≤ x ∧ x % 64 = 0 := by unfold pageOk; simp
theorem listRun_ok (bs : List Int) : ∀ (f : Nat) (at_ left : Int) (segs out : List (Int × Int)), 0 ≤ left → listRun bs f at_ left segs = (0, out) →
    ∃ more, out = segs ++ more ∧ (∀ s ∈ more, segOk bs.length s ∧ s.1 % 64 = 0 ∧ s.2 ≤ 64) ∧ segSum more = left := by
  intro f
  induction f with
  | zero =>
    intro at_ left segs out h0 h
    unfold listRun at h
    split at h
    · cases h; exact ⟨[], by simp, by simp, by simp [segSum]; omega⟩
    · cases h
  | succ f ih =>
    intro at_ left segs out h0 h
    unfold listRun at h
    split at h
    · cases h; exact ⟨[], by simp, by simp, by simp [segSum]; omega⟩
    · split at h
      · cases h
      · next x hx =>
        split at h
        · cases h
        · next hp =>
          have hp' : pageOk x = true := by simpa using hp
          rw [pageOk_iff] at hp'
          split at h
          · exact ih _ _ _ _ h0 h
          · split at h
            · next hf =>
              obtain ⟨more, e1, e2, e3⟩ := ih _ _ _ _ (by omega) h
              refine ⟨(x, min 64 left) :: more, by simp [e1], ?_, ?_⟩
              · intro s hs
                rcases List.mem_cons.1 hs with rfl | hs
                · exact ⟨⟨hf, by simp; omega, by simp; omega⟩, hp'.2, by simp; omega⟩
                · exact e2 s hs
              · have : segSum ((x, min 64 left) :: more) = min 64 left + segSum more := by simp [segSum]
                rw [this, e3]; omega
            · cases h
theorem walkRes_ok (bs : List Int) (first second long : Int) (out : List (Int × Int)) (h : walkRes bs first second long = (0, out)) :
    1 ≤ long ∧ long ≤ 2048 ∧ (∀ s ∈ out, segOk bs.length s) ∧ segSum out = long ∧ ∃ n more, out = (first, n) :: more ∧ ∀ s ∈ more, s.1 % 64 = 0 := by
  unfold walkRes at h
  split at h; · cases h
  split at h; · cases h
  split at h; · cases h
  split at h; · cases h
  next h1 h2 h3 h4 =>
  have h4' : memFits bs.length first (min (64 - first % 64) long) = true := by simpa using h4
  generalize hn : min (64 - first % 64) long = n at *
  have hs : segOk bs.length (first, n) := ⟨h4', by simp; omega, by simp; omega⟩
  refine ⟨by omega, by omega, ?_⟩
  split at h
  · cases h
    exact ⟨by simpa using hs, by simp [segSum]; omega, n, [], rfl, by simp⟩
  · split at h
    · split at h; · cases h
      next hp =>
      have hp' : pageOk second = true := by simpa using hp
      rw [pageOk_iff] at hp'
      split at h
      · next hf =>
        cases h
        refine ⟨?_, by simp [segSum]; omega, n, _, rfl, by simp; omega⟩
        intro s hs'
        simp only [List.mem_cons, List.not_mem_nil, or_false] at hs'
        rcases hs' with rfl | rfl
        · exact hs
        · exact ⟨hf, by simp; omega, by simp; omega⟩
      · cases h
    · split at h; · cases h
      obtain ⟨more, rfl, e2, e3⟩ := listRun_ok bs _ _ _ _ _ (by omega) h
      refine ⟨?_, by rw [segSum_append, e3]; simp [segSum]; omega, n, more, by simp, fun s hs' => (e2 s hs').2.1⟩
      intro s hs'
      rcases List.mem_append.1 hs' with hs' | hs'
      · simp at hs'; subst hs'; exact hs
      · exact (e2 s hs').1
end Go.Proofs.YtdkpbobglogmoaaGreat
namespace Go.Proofs.YtdkpbobglogmoaaGreat
open Go.RowKit Go.WideShapes
def memRangeErr : Value := .iface 54 (.int .i64 1)
theorem mem_part_bad (b mb : Nat) (L : Nat) (p n : Int) (w : World) (c0 : w.cell? ⟨b, 0, none⟩ = some (.slice (some ⟨mb, 0, none⟩) L L))
    (hL : L ≤ 16384) (hp0 : -9223372036854775808 ≤ p) (hp1 : p ≤ 9223372036854775807) (hn0 : -9223372036854775808 ≤ n) (hn1 : n ≤ 9223372036854775807)
    (h : p < 0 ∨ n < 0 ∨ (L : Int) < n ∨ (L : Int) - n < p) :
    Calls Tryz.prog 33 #[.pointer (some ⟨b, 0, none⟩), .int .i64 p, .int .i64 n] w fun e w' => e = .returned (.tuple #[.slice none 0 0, memRangeErr]) ∧ w = w' := by
  by_cases h1 : p < 0
  · have d1 : decide (p < 0) = true := by simpa using h1
    go_enter Tryz.func33, Tryz.ntmps33
    go_wp2
    go_ret2
    exact ⟨rfl, rfl⟩
  have d1 : decide (p < 0) = false := by simpa using h1
  by_cases h2 : n < 0
  · have d2 : decide (n < 0) = true := by simpa using h2
    go_enter Tryz.func33, Tryz.ntmps33
    go_wp2
    go_ret2
    exact ⟨rfl, rfl⟩
  have d2 : decide (n < 0) = false := by simpa using h2
  by_cases h3 : (L : Int) < n
  · have d3 : decide ((L : Int) < n) = true := by simpa using h3
    go_enter Tryz.func33, Tryz.ntmps33
    go_wp2
    go_ret2
    exact ⟨rfl, rfl⟩
  have d3 : decide ((L : Int) < n) = false := by simpa using h3
  have d4 : decide ((L : Int) - n < p) = true := by simp; omega
  have hn2 : 0 ≤ n := by omega
  have hn3 : n ≤ L := by omega
  have hs : -9223372036854775808 ≤ (L : Int) - n := by omega
  go_enter Tryz.func33, Tryz.ntmps33
  go_wp2
  go_ret2
  exact ⟨rfl, rfl⟩
def partOff (p n : Nat) : Nat := if n = 0 then 0 else p
theorem mem_part_ok (b mb : Nat) (L p n : Nat) (w : World) (c0 : w.cell? ⟨b, 0, none⟩ = some (.slice (some ⟨mb, 0, none⟩) L L))
    (hL : L ≤ 16384) (h : p + n ≤ L) :
    Calls Tryz.prog 33 #[.pointer (some ⟨b, 0, none⟩), .int .i64 p, .int .i64 n] w fun e w' => e = .returned (.tuple #[.slice (some ⟨mb, partOff p n, none⟩) n n, .nilIface]) ∧ w = w' := by
  have d1 : decide ((p : Int) < 0) = false := by simp
  have d2 : decide ((n : Int) < 0) = false := by simp
  have d3 : decide ((L : Int) < (n : Int)) = false := by simp; omega
  have d4 : decide ((L : Int) - n < p) = false := by simp; omega
  by_cases hn : n = 0
  · subst hn
    have e : partOff p 0 = 0 := rfl
    rw [e]
    clear e
    go_enter Tryz.func33, Tryz.ntmps33
    go_wp2
    all_goals (go_ret2; exact ⟨rfl, rfl⟩)
  · have e : partOff p n = p := if_neg hn
    rw [e]
    clear e
    have hpL : ¬ p = L := by omega
    go_enter Tryz.func33, Tryz.ntmps33
    go_wp2
    go_ret2
    simp
structure MemAt (w : World) (b mb : Nat) (bs : List Int) : Prop where
  head : Blk w b #[.slice (some ⟨mb, 0, none⟩) bs.length bs.length] 56
  body : Blk w mb (bs.map (Value.int .u8)).toArray 5
  apart : b ≠ mb
  most : bs.length ≤ 16384
  byte : ∀ x ∈ bs, 0 ≤ x ∧ x ≤ 255
theorem mem_new_bad (n : Int) (w : World) (h : n < 0 ∨ 16384 < n) :
    Calls Tryz.prog 5 #[.int .i64 n] w fun e w' => e = .returned (.tuple #[.pointer none, memRangeErr]) ∧ w = w' := by
  by_cases h1 : n < 0
  · go_enter Tryz.func5, Tryz.ntmps5
    go_wp2
    go_ret2
    exact ⟨rfl, rfl⟩
  have h2 : 16384 < n := by omega
  go_enter Tryz.func5, Tryz.ntmps5
  go_wp2
  go_ret2
  exact ⟨rfl, rfl⟩
theorem madeCells_u8 (n : Nat) : madeCells #[.int .u8 0] n = ((List.replicate n (0 : Int)).map (Value.int .u8)).toArray := by
  apply Array.toList_inj.1
  rw [toList_madeCells_one]
  simp
theorem mem_new_ok (n : Nat) (w : World) (h : n ≤ 16384) :
    Calls Tryz.prog 5 #[.int .i64 n] w fun e w' => e = .returned (.tuple #[.pointer (some ⟨w.heap.size + 1, 0, none⟩), .nilIface]) ∧ MemAt w' (w.heap.size + 1) w.heap.size (List.replicate n 0) ∧ Below w.heap.size w w' := by
  have hmk := fun (w : World) => run_make_row' (P := Tryz.prog) 33 5 (.int .u8 0) 1 Tryz.underlying33 (by kernel_rfl) rfl .i64 .i64 n (by omega) (by omega) w
  go_enter Tryz.func5, Tryz.ntmps5
  go_wp2
  go_ret2
  refine ⟨rfl, ⟨?_, ?_, by omega, by simpa using h, by simp⟩, ?_⟩
  · have e := Blk.new (w.alloc (.cells (madeCells #[.int .u8 0] n) 5)) #[.slice (some ⟨w.heap.size, 0, none⟩) n n] 56
    simpa using e
  · exact ((Blk.new w (madeCells #[.int .u8 0] n) 5).of (madeCells_u8 n)).alloc _
  · exact ((Below.refl _ _).alloc (Nat.le_refl _) _).alloc (by simp) _
theorem bytes_clone (a : Addr) (n c : Nat) (xs : List Int) (w : World) (hx : xs.length = n) (hbig : n ≤ 140737488355328) (hc : ∀ i, i < n → w.cell? (a.add i) = some (.int .u8 (xs.getD i 0))) :
    Calls Tryz.prog 34 #[.slice (some a) n c] w fun e w' => ∃ v', e = .returned v' ∧ w'.ownsRow w.heap.size 5 1 v' n (xs.map (Value.int .u8)) ∧ v' ≠ .slice none 0 0 ∧ Below w.heap.size w w' := by
  obtain ⟨i0, hi, hz0, hz1, hz2⟩ := info_parts (P := Tryz.prog) (e := 5) (z := .int .u8 0) (size := 1) (bytes := 1) (by kernel_rfl)
  have q22 : ∀ (w : World) (a : Option Addr) (n c n' c' : Nat), (binOp .eql 33 (.slice a n c) (.slice none n' c')).run Tryz.prog w = .ok (.bool a.isNone) w := fun w a n c n' c' => Lib.run_eql_slice_nil w _ _ a n c n' c' Tryz.underlying33
  have A := Lib.hid hc
  clear hc
  go_enter Tryz.func34, Tryz.ntmps34
  go_wp2_with (at_builtin; refine wpList_append_own _ rfl _ _ 33 rfl w.heap.size 5 i0 (.int .u8 0) 1 1 Tryz.underlying33 hi hz0 hz1 hz2 rfl (by decide) _ _ _ rfl (World.ownsRow_made w #[] 0 (Nat.le_refl _) (Nat.zero_le _) rfl) a n c (xs.map (Value.int .u8)) rfl ?qc1 ?qc2 ?qc3 ?qc4 ?qc5 ?qc6 ?_)
  case qc1 => simp; omega
  case qc2 =>
    intro j u hj
    have hjn : j < n := by
      have := (List.getElem?_eq_some_iff.1 hj).1
      simp at this
      omega
    refine Lib.cell?_alloc_some _ ?_
    rw [A.out j hjn]
    have e : (xs.map (Value.int .u8))[j]? = some (Value.int .u8 (xs.getD j 0)) := by simp [List.getD, List.getElem?_eq_getElem (show j < xs.length by omega)]
    rw [e] at hj
    exact hj
  case qc3 => intro u hu; obtain ⟨x, _, rfl⟩ := List.mem_map.1 hu; rfl
  case qc4 => unfold maxLen; omega
  case qc5 => omega
  case qc6 => simp
  intro v' w1 hown hgrow hnil
  go_wp2
  go_ret
  refine ⟨v', rfl, by simpa using hown, ?_, ?_⟩
  · first | exact hnil | (intro e; exact absurd (hnil.1 e).1 (by simp))
  · exact ((Below.refl _ w).alloc (Nat.le_refl _) _).grown hgrow (by simp) (by intro k hk; simp [Value.ownBlock] at hk; omega)
theorem bytes_clone_nil (n c : Nat) (w : World) :
    Calls Tryz.prog 34 #[.slice none n c] w fun e w' => e = .returned (.slice none 0 0) ∧ w = w' := by
  have q22 : ∀ (w : World) (a : Option Addr) (n c n' c' : Nat), (binOp .eql 33 (.slice a n c) (.slice none n' c')).run Tryz.prog w = .ok (.bool a.isNone) w := fun w a n c n' c' => Lib.run_eql_slice_nil w _ _ a n c n' c' Tryz.underlying33
  go_enter Tryz.func34, Tryz.ntmps34
  go_wp2
  go_ret
  exact ⟨rfl, rfl⟩
theorem MemAt.cells {w : World} {b mb : Nat} {bs : List Int} (h : MemAt w b mb bs) (p n : Nat) (hp : p + n ≤ bs.length) :
    ∀ i, i < n → w.cell? ((⟨mb, partOff p n, none⟩ : Addr).add i) = some (.int .u8 (((bs.drop p).take n).getD i 0)) := by
  intro i hi
  have e : partOff p n = p := if_neg (by omega)
  rw [e, add_plain, h.body.cell]
  have h2 : p + i < bs.length := by omega
  simp [List.getD, h2, hi, List.getElem?_drop]
theorem MemAt.c0 {w : World} {b mb : Nat} {bs : List Int} (h : MemAt w b mb bs) : w.cell? ⟨b, 0, none⟩ = some (.slice (some ⟨mb, 0, none⟩) bs.length bs.length) := h.head.cell 0
theorem mem_read_bad (b mb : Nat) (bs : List Int) (p n : Int) (w : World) (h : MemAt w b mb bs) (hp0 : -9223372036854775808 ≤ p) (hp1 : p ≤ 9223372036854775807) (hn0 : -9223372036854775808 ≤ n) (hn1 : n ≤ 9223372036854775807)
    (hx : p < 0 ∨ n < 0 ∨ (bs.length : Int) < n ∨ (bs.length : Int) - n < p) :
    Calls Tryz.prog 15 #[.pointer (some ⟨b, 0, none⟩), .int .i64 p, .int .i64 n] w fun e w' => e = .returned (.tuple #[.slice none 0 0, memRangeErr]) ∧ w = w' := by
  have Hx := Lib.hid hx
  have Hm := Lib.hid h
  clear hx h
  go_enter Tryz.func15, Tryz.ntmps15
  go_wp2_with fail
  refine (mem_part_bad b mb bs.length p n _ Hm.out.c0 Hm.out.most hp0 hp1 hn0 hn1 Hx.out).mono ?_
  rintro e w' ⟨rfl, rfl⟩
  go_wp2_with fail
  refine (bytes_clone_nil _ _ _).mono ?_
  rintro e w' ⟨rfl, rfl⟩
  go_wp2
  go_ret2
  exact ⟨rfl, rfl⟩
theorem mem_read_ok (b mb : Nat) (bs : List Int) (p n : Nat) (w : World) (h : MemAt w b mb bs) (hp : p + n ≤ bs.length) :
    Calls Tryz.prog 15 #[.pointer (some ⟨b, 0, none⟩), .int .i64 p, .int .i64 n] w fun e w' => ∃ g cap, e = .returned (.tuple #[.slice (some ⟨g, 0, none⟩) n cap, .nilIface]) ∧
      w'.ownsRow w.heap.size 5 1 (.slice (some ⟨g, 0, none⟩) n cap) n (((bs.drop p).take n).map (Value.int .u8)) ∧ Below w.heap.size w w' := by
  have Hm := Lib.hid h
  have hm := h.most
  clear h
  go_enter Tryz.func15, Tryz.ntmps15
  go_wp2_with fail
  refine (mem_part_ok b mb bs.length p n _ Hm.out.c0 Hm.out.most hp).mono ?_
  rintro e w' ⟨rfl, rfl⟩
  go_wp2_with fail
  refine (bytes_clone _ n n ((bs.drop p).take n) _ (by simp; omega) (by omega) (Hm.out.cells p n hp)).mono ?_
  rintro e w' ⟨v, rfl, hown, hnil, hbel⟩
  have hv : ∃ g cap, v = .slice (some ⟨g, 0, none⟩) n cap := by
    obtain ⟨_, h | ⟨g, cap, cur, h, _⟩⟩ := hown
    · exact absurd h.1 hnil
    · exact ⟨g, cap, h⟩
  obtain ⟨g, cap, hv⟩ := hv
  rw [hv] at hown ⊢
  clear hv hnil
  have Ho := Lib.hid hown
  have Hb := Lib.hid hbel
  clear hown hbel
  go_wp2
  go_ret2
  exact ⟨g, cap, rfl, Ho.out, Hb.out⟩
end Go.Proofs.YtdkpbobglogmoaaGreat
namespace Go.Proofs.YtdkpbobglogmoaaGreat
open Go.RowKit Go.WideShapes
theorem MemAt.below {w w' : World} {b mb : Nat} {bs : List Int} (h : MemAt w b mb bs) (hb : Below w.heap.size w w') : MemAt w' b mb bs :=
  have hk : Keep (fun _ => False) w w' := Keep.ofBelow hb (fun k h1 h2 => absurd h1 (by omega))
  ⟨hk.blk h.head (fun h => h), hk.blk h.body (fun h => h), h.apart, h.most, h.byte⟩
theorem MemAt.drewN {w : World} {b mb : Nat} {bs : List Int} (h : MemAt w b mb bs) (k : Nat) : MemAt (w.drewN k) b mb bs := ⟨h.head, h.body, h.apart, h.most, h.byte⟩
end Go.Proofs.YtdkpbobglogmoaaGreat
namespace Go.Proofs.YtdkpbobglogmoaaGreat
open Go.RowKit
theorem own_form {w : World} {base : Nat} {e : TypeId} {size : Nat} {v : Value} {n : Nat} {xs : List Value} (h : w.ownsRow base e size v n xs) (hn : 0 < n) : ∃ g cap, v = .slice (some ⟨g, 0, none⟩) n cap ∧ base ≤ g := by
  rcases h.2 with ⟨_, h0⟩ | ⟨g, cap, cur, hv, hb, hg, _⟩
  · omega
  · exact ⟨g, cap, hv, hb⟩
theorem own_below {w w' : World} {base : Nat} {e : TypeId} {size : Nat} {v : Value} {n : Nat} {xs : List Value} (h : w.ownsRow base e size v n xs) (hb : Below w.heap.size w w') : w'.ownsRow base e size v n xs := by
  obtain ⟨hl, h | ⟨g, cap, cur, hv, h1, h2, h3⟩⟩ := h
  · exact ⟨hl, .inl h⟩
  · exact ⟨hl, .inr ⟨g, cap, cur, hv, h1, by rw [hb.block g (Array.getElem?_eq_some_iff.1 h2).1]; exact h2, h3⟩⟩
theorem own_keep {w w' : World} {base : Nat} {e : TypeId} {size : Nat} {v : Value} {n : Nat} {xs : List Value} {S : Nat → Prop} (h : w.ownsRow base e size v n xs) (hk : Keep S w w') (hS : ∀ k, S k → k < base) : w'.ownsRow base e size v n xs := by
  obtain ⟨hl, h | ⟨g, cap, cur, hv, h1, h2, h3⟩⟩ := h
  · exact ⟨hl, .inl h⟩
  · exact ⟨hl, .inr ⟨g, cap, cur, hv, h1, by rw [hk.block g (Array.getElem?_eq_some_iff.1 h2).1 (fun q => by have := hS g q; omega)]; exact h2, h3⟩⟩
end Go.Proofs.YtdkpbobglogmoaaGreat
namespace Go.Proofs.YtdkpbobglogmoaaGreat
open Go.RowKit
theorem ret_bool {a b : Bool} (h : a = b) : Ending.returned (.bool a) = .returned (.bool b) := by rw [h]
end Go.Proofs.YtdkpbobglogmoaaGreat
