/- granarylaw3.memStep: SetNumber carried out. -/
import Derived.Test.YtnapgigemdmigaaDoorMemStep
import Derived.Test.YtnapgigemdmigaaDoorSplice
import Derived.Test.YtnapgigemdmigaaDoorOwn
import Derived.Test.YtnapgigemdmigaaDoorEight
import Derived.BigRegion
namespace Go.Proofs.YtnapgigemdmigaaDoor
open Go.RowKit
set_option linter.unusedVariables false

/-- the document's bytes in the making: j of the digits stand -/
structure Making (w0 : World) (rb : Nat) (bs ys : List Int) (p j : Nat) (wr : World) : Prop where
  le : j ≤ ys.length
  blk : Blk wr rb ((splice bs p (ys.take j)).map (Value.int .u8)).toArray 5
  keep : Keep (· = rb) w0 wr

set_option maxRecDepth 100000 in
set_option maxHeartbeats 4000000 in
theorem mem_stepS_ok (b mb rb : Nat) (bs : List Int) (k : Int) (p : Nat) (n : Int) (da : Option Addr) (dn dc : Nat) (w : World) (h : MemBoth w b mb rb bs) (n0 : 0 ≤ n) (n1 : n ≤ 4611686018427387904) (hp : p + 8 ≤ bs.length)
    (k1 : k ≠ 1) (k2 : k ≠ 2) (k3 : k ≠ 3) :
    Calls Tryd.prog 11 #[.pointer (some ⟨b, 0, none⟩), .slice (some ⟨rb, 0, none⟩) bs.length bs.length, opV k p n da dn dc] w fun e w' => e = .returned (.bool true) ∧ MemBoth w' b mb rb (splice bs p (leDig 8 n)) ∧ Keep (fun q => q = mb ∨ q = rb) w w' := by
  have HM := Lib.hid h
  have hm := h.mem.most
  have hrl := h.ref.lt
  have d1 : (k == 1) = false := by simpa using k1
  have d2 : (k == 2) = false := by simpa using k2
  have d3 : (k == 3) = false := by simpa using k3
  clear h k1 k2 k3
  unfold opV
  go_enter Tryd.func11, Tryd.ntmps11
  go_wp2_with fail
  have hb1 : Below w.heap.size w (w.alloc (.cells #[.int .i64 k, .int .i64 (p : Int), .int .i64 n, .slice da dn dc] 33)) := (Below.refl _ _).alloc (Nat.le_refl _) _
  have hbk := Blk.new w #[.int .i64 k, .int .i64 (p : Int), .int .i64 n, .slice da dn dc] 33
  have HB1 := Lib.hid hb1
  have HBK := Lib.hid hbk
  have HM1 := Lib.hid (HM.out.below hb1)
  clear hb1 hbk
  generalize w.alloc _ = w1 at *
  refine (mem_set_ok b mb bs p n w1 HM1.out.mem hp n0 n1).mono ?_
  rintro e w2 ⟨rfl, hm2, hk2⟩
  have hmbl := HM.out.mem.body.lt
  have hobm : w.heap.size ≠ mb := by omega
  have hobr : w.heap.size ≠ rb := by omega
  have hr2 : Blk w2 rb (bs.map (Value.int .u8)).toArray 5 := hk2.blk HM1.out.ref HM.out.a2
  have hbk2 : Blk w2 w.heap.size _ 33 := hk2.blk HBK.out hobm
  have q1 : w2.cell? ⟨w.heap.size, 1, none⟩ = some (.int .i64 (p : Int)) := hbk2.cell 1
  have q2 : w2.cell? ⟨w.heap.size, 2, none⟩ = some (.int .i64 n) := hbk2.cell 2
  have HF := Lib.hid (ref_fits bs.length p 8 w2 hm (by omega) (by omega) (by omega) (by omega))
  rw [show memFits bs.length p 8 = true from decide_eq_true (by omega)] at HF
  have d4 : decide (n < 0) = false := decide_eq_false (by omega)
  have d5 : decide (4611686018427387904 < n) = false := decide_eq_false (by omega)
  have HM2 := Lib.hid hm2
  have HK2 := Lib.hid hk2
  have HR2 := Lib.hid hr2
  have HBK2 := Lib.hid hbk2
  clear hm2 hk2 hr2 hbk2
  go_wp2_with fail
  refine HF.out.mono ?_
  rintro e w' ⟨rfl, rfl⟩
  go_wp2_with fail
  refine (ref_eight n w2 n0 (by omega)).mono ?_
  rintro e w3 ⟨v, rfl, hE⟩
  obtain ⟨g, cap, rfl, hgb⟩ := own_form hE.1 (by omega)
  have hq1 : w3.cell? ⟨w.heap.size, 1, none⟩ = some (.int .i64 (p : Int)) := (hE.2.cell (p := ⟨w.heap.size, 1, none⟩) HBK2.out.lt).trans q1
  have hr3 : Blk w3 rb (bs.map (Value.int .u8)).toArray 5 := by have hl := HR2.out.lt; have := HR2.out; unfold Blk at *; rw [hE.2.block _ hl]; exact this
  have hrl2 := HR2.out.lt
  have hobl := HBK2.out.lt
  have hgr : g ≠ rb := by omega
  have hs3 := hE.2.size
  have hys : (leDig 8 n).length = 8 := leDig_length 8 n
  have Hys := Lib.hid (fun j (hj : j < 8) => show w3.cell? ⟨g, j, none⟩ = some (.int .u8 ((leDig 8 n).getD j 0)) from by
    rw [hE.1.cellAt j (by omega)]
    simp [List.getD, List.getElem?_eq_getElem (show j < (leDig 8 n).length by omega)])
  have hgl := (hE.1.lt g rfl).2
  have HE2 := Lib.hid hE.2
  have HYB := Lib.hid (leDig_byte 8 n)
  have Hq1 := Lib.hid hq1
  have HR3 := Lib.hid hr3
  clear q1 q2 d1 d2 d3 d4 d5 hE hq1 hr3 HF
  generalize hyy : leDig 8 n = ys at *
  have HY := Lib.hid hyy
  clear hyy
  go_wp2_with fail
  go_loopw [23] (fun i wr => ∃ j : Nat, j ≤ 8 ∧ i = .int .i64 j ∧ Blk wr rb ((splice bs p (ys.take j)).map (Value.int .u8)).toArray 5 ∧ Keep (· = rb) w3 wr) (fun i _ => 8 - (intOf i).toNat)
  case atStart => exact ⟨0, by omega, rfl, by simpa [splice] using HR3.out, Keep.refl _ _⟩
  case round =>
    obtain ⟨j, hj, rfl, hbj, hkj⟩ := hrel
    by_cases hlt : j < 8
    · have hsz := hkj.size
      have y1 : wr.cell? ⟨w.heap.size, 1, none⟩ = some (.int .i64 (p : Int)) := (hkj.cell (p := ⟨w.heap.size, 1, none⟩) (by simp; omega) hobr).trans Hq1.out
      have y2 : wr.cell? ⟨g, j, none⟩ = some (.int .u8 (ys.getD j 0)) := (hkj.cell (p := ⟨g, j, none⟩) (by simpa using hgl) hgr).trans (Hys.out j hlt)
      have hsl : (splice bs p (ys.take j)).length = bs.length := length_splice _ _ _ (by simp; omega)
      have y3 : wr.cell? ⟨rb, p + j, none⟩ = some (.int .u8 ((splice bs p (ys.take j)).getD (p + j) 0)) := by
        rw [hbj.cell]
        simp [List.getD, List.getElem?_eq_getElem (show p + j < (splice bs p (ys.take j)).length by omega)]
      have f3 := hbj.free (p + j)
      have hset : Blk (wr.setCell ⟨rb, p + j, none⟩ (.int .u8 (ys.getD j 0))) rb ((splice bs p (ys.take (j + 1))).map (Value.int .u8)).toArray 5 := (hbj.set (p + j) (.int .u8 (ys.getD j 0))).of (by
        rw [← splice_set bs p ys j (by omega) (by omega)]
        simp [List.map_set])
      have hkeep : Keep (· = rb) w3 (wr.setCell ⟨rb, p + j, none⟩ (.int .u8 (ys.getD j 0))) := hkj.setCell (.inl rfl) _
      have Hset := Lib.hid hset
      have Hkeep := Lib.hid hkeep
      have hw : IntKind.i64.wrap ((p : Int) + (j : Int)) = (p : Int) + (j : Int) := IntWalk.i64_in _ (by omega)
      have hpj : p + j < bs.length := by omega
      clear hbj hkj hset hkeep hsl
      generalize (splice bs p (ys.take j)).getD (p + j) 0 = old at *
      generalize ys.getD j 0 = yj at *
      go_wp2_with fail
      go_region
      clear y1 y2 y3 f3
      go_wp2
      go_roundw
      case rel => exact ⟨j + 1, by omega, by go_num, Hset.out.drew, Hkeep.out.drew⟩
      case measure => simp [intOf]; omega
    · obtain rfl : j = 8 := by omega
      rw [List.take_of_length_le (by omega)] at hbj
      have hrb := HM.out.a1
      have hrm := HM.out.a2
      have hm3 : MemAt w3 b mb (splice bs p ys) := HM2.out.below HE2.out
      have hfin : MemBoth wr b mb rb (splice bs p ys) := ⟨⟨hkj.blk hm3.head (fun e => hrb e.symm), hkj.blk hm3.body (fun e => hrm e.symm), hm3.apart, hm3.most, hm3.byte⟩, hbj, hrb, hrm⟩
      have kp1 : Keep (fun q => q = mb ∨ q = rb) w w1 := Keep.ofBelow HB1.out (fun q h1 h2 => absurd h1 (by omega))
      have kp2 : Keep (fun q => q = mb ∨ q = rb) w1 w2 := HK2.out.mono (fun q _ h => .inl h)
      have kp3 : Keep (fun q => q = mb ∨ q = rb) w2 w3 := Keep.ofBelow HE2.out (fun q h1 h2 => absurd h1 (by omega))
      have kp4 : Keep (fun q => q = mb ∨ q = rb) w3 wr := hkj.mono (fun q _ h => .inr h)
      have HFin := Lib.hid hfin
      have HKp := Lib.hid (((kp1.trans kp2).trans kp3).trans kp4)
      clear hbj hkj hfin kp1 kp2 kp3 kp4 hm3
      go_wp2
      go_ret
      exact ⟨rfl, by rw [HY.out]; exact HFin.out, HKp.out⟩
end Go.Proofs.YtnapgigemdmigaaDoor
