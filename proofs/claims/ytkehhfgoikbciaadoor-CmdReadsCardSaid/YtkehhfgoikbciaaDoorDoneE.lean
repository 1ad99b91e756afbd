/- cmd.EncodeDone. -/
import Derived.Test.YtkehhfgoikbciaaDoorDoneA
import Derived.Test.YtkehhfgoikbciaaDoorCmdW
namespace Go.Proofs.YtkehhfgoikbciaaDoor
open Go.RowKit Go.WideShapes
set_option linter.unusedVariables false

/-- the fields of a completion -/
def doneFld : Nat → Fld
  | 0 => ⟨0, 2, 0⟩
  | 1 => ⟨2, 2, 1⟩
  | 2 => ⟨4, 2, 2⟩
  | _ => ⟨6, 1, 3⟩
def doneNum (x0 x1 x2 x3 : Int) : Nat → Int
  | 0 => x0
  | 1 => x1
  | 2 => x2
  | _ => x3
def doneV (x0 x1 x2 x3 : Int) (ph : Bool) : Value := .agg #[.int .i64 x0, .int .i64 x1, .int .i64 x2, .int .i64 x3, .bool ph]
theorem four {P : Nat → Prop} (h0 : P 0) (h1 : P 1) (h2 : P 2) (h3 : P 3) : ∀ k, k < 4 → P k := by
  intro k hk
  rcases (by omega : k = 0 ∨ k = 1 ∨ k = 2 ∨ k = 3) with rfl | rfl | rfl | rfl <;> assumption
def doneBytes (X : Nat → Int) (ph : Bool) : List Int := if ph then (bytesAfter 16 doneFld X 4).set 7 1 else bytesAfter 16 doneFld X 4

/-- what EncodeDone tells -/
def EncDPost (w : World) (x0 x1 x2 x3 : Int) (ph : Bool) (e : Ending) (w' : World) : Prop :=
  Below w.heap.size w w' ∧ ((allFit doneFld (doneNum x0 x1 x2 x3) 4 ∧ ∃ g, w.heap.size ≤ g ∧ e = .returned (.tuple #[.slice (some ⟨g, 0, none⟩) 16 16, .nilIface]) ∧ Blk w' g ((doneBytes (doneNum x0 x1 x2 x3) ph).map (Value.int .u8)).toArray 5) ∨
    (¬ allFit doneFld (doneNum x0 x1 x2 x3) 4 ∧ e = .returned (.tuple #[.slice none 0 0, cmdErr 1])))
def IW (x : Int) : Prop := -9223372036854775808 ≤ x ∧ x ≤ 9223372036854775807
theorem map_set_b (bs : List Int) (q : Nat) (v : Int) : ((bs.map (Value.int .u8)).toArray).setIfInBounds q (.int .u8 v) = ((bs.set q v).map (Value.int .u8)).toArray := by
  simp [List.map_set]

set_option maxRecDepth 100000 in
set_option maxHeartbeats 4000000 in
theorem cmd_encodeDone (x0 x1 x2 x3 : Int) (ph : Bool) (w : World) (b0 : IW x0) (b1 : IW x1) (b2 : IW x2) (b3 : IW x3) :
    Calls Tryd.prog 40 #[doneV x0 x1 x2 x3 ph] w (EncDPost w x0 x1 x2 x3 ph) := by
  have HB := Lib.hid (four (P := fun k => -9223372036854775808 ≤ doneNum x0 x1 x2 x3 k ∧ doneNum x0 x1 x2 x3 k ≤ 9223372036854775807) b0 b1 b2 b3)
  have hl7 := Lib.hid (bytesAfter_length 16 doneFld (doneNum x0 x1 x2 x3) 4 (four (P := fun k => (doneFld k).p + (doneFld k).L ≤ 16) (by simp [doneFld]) (by simp [doneFld]) (by simp [doneFld]) (by simp [doneFld])) 4 (by omega))
  clear b0 b1 b2 b3
  unfold doneV
  go_enter Tryd.func40, Tryd.ntmps40
  go_wp2_with fail
  refine (cmd_completion w.heap.size _ (by simp)).mono ?_
  rintro e w1 ⟨rfl, hw1⟩
  have hc1 : Blk w1 w.heap.size #[.int .i64 x0, .int .i64 x1, .int .i64 x2, .int .i64 x3, .bool ph] 65 := (Keep.ofBelow (S := fun _ => False) hw1 (fun k h1 h2 => absurd h1 (by omega))).blk (Blk.new _ _ _) (fun h => h)
  have hbe1 : Below w.heap.size w w1 := ((Below.refl _ _).alloc (Nat.le_refl _) _).trans (hw1.mono (by simp))
  have Hc1 := Lib.hid hc1
  have Hbe1 := Lib.hid hbe1
  have hl1 := hc1.lt
  clear hw1 hc1 hbe1
  go_wp2_with (with_reducible refine wpList_store_row rfl 166 (.tmp 4) (.tmp 7) rfl w1.heap.size (doneCells w.heap.size) rfl rfl 166 zeroPairs4 ?hg (by kernel_rfl) rfl (by simp [doneCells, Value.oneCell']) ?_)
  case hg => exact Blk.new _ _ _
  have hr := setRow_heap (w1.alloc (.cells zeroPairs4 166)) w1.heap.size zeroPairs4 (doneCells w.heap.size) 166 (0, 0) (Blk.new _ _ _)
  have hb2 : Below w1.heap.size w1 ((w1.alloc (.cells zeroPairs4 166)).setRow w1.heap.size (doneCells w.heap.size)) := below_setRow ((Below.refl _ _).alloc (Nat.le_refl _) _) (Nat.le_refl _) _
  have hs2 : w1.heap.size < ((w1.alloc (.cells zeroPairs4 166)).setRow w1.heap.size (doneCells w.heap.size)).heap.size := by simp
  change Calls _ _ _ ((w1.alloc (.cells zeroPairs4 166)).setRow w1.heap.size (doneCells w.heap.size)) _
  generalize hW : (w1.alloc (.cells zeroPairs4 166)).setRow w1.heap.size (doneCells w.heap.size) = W2 at hr hb2 hs2 ⊢
  have hc2 : Blk W2 w.heap.size #[.int .i64 x0, .int .i64 x1, .int .i64 x2, .int .i64 x3, .bool ph] 65 := (Keep.ofBelow (S := fun _ => False) hb2 (fun k h1 h2 => absurd h1 (by omega))).blk Hc1.out (fun h => h)
  have hr' : Blk W2 w1.heap.size (doneCells w.heap.size) 166 := hr
  have hbe2 : Below w.heap.size w W2 := Hbe1.out.trans (hb2.mono Hbe1.out.size)
  have hlt2 := hc2.lt
  refine (cmd_written 16 4 w1.heap.size 4 w.heap.size doneFld (doneNum x0 x1 x2 x3) W2 (by omega) (by omega) hs2 hc2.lt
    (four (P := fun k => (doneFld k).p + (doneFld k).L ≤ 16 ∧ ((doneFld k).L = 1 ∨ (doneFld k).L = 2 ∨ (doneFld k).L = 4 ∨ (doneFld k).L = 8)) (by simp [doneFld]) (by simp [doneFld]) (by simp [doneFld]) (by simp [doneFld]))
    HB.out
    (four (P := fun k => W2.cell? ⟨w1.heap.size, k * 3, none⟩ = some (.int .i64 ((doneFld k).p : Nat)) ∧ W2.cell? ⟨w1.heap.size, k * 3 + 1, none⟩ = some (.int .i64 ((doneFld k).L : Nat)) ∧ W2.cell? ⟨w1.heap.size, k * 3 + 2, none⟩ = some (.pointer (some ⟨w.heap.size, (doneFld k).off, none⟩)))
      ⟨hr'.cell 0, hr'.cell 1, hr'.cell 2⟩ ⟨hr'.cell 3, hr'.cell 4, hr'.cell 5⟩ ⟨hr'.cell 6, hr'.cell 7, hr'.cell 8⟩ ⟨hr'.cell 9, hr'.cell 10, hr'.cell 11⟩)
    (four (P := fun k => W2.cell? ⟨w.heap.size, (doneFld k).off, none⟩ = some (.int .i64 (doneNum x0 x1 x2 x3 k))) (hc2.cell 0) (hc2.cell 1) (hc2.cell 2) (hc2.cell 3))).mono ?_
  rintro e w3 ⟨hbe3, ⟨hfit, g, hg, rfl, hb3⟩ | ⟨hno, rfl⟩⟩
  · have hb3' := hb3
    have hbe4 : Below w.heap.size w w3 := hbe2.trans (hbe3.mono hbe2.size)
    have hc3 := (Keep.ofBelow (S := fun _ => False) hbe3 (fun k h1 h2 => absurd h1 (by omega))).blk hc2 (fun h => h)
    have q4 : w3.cell? ⟨w.heap.size, 4, none⟩ = some (.bool ph) := hc3.cell 4
    have hwg : w.heap.size ≤ g := by have := hbe2.size; omega
    have Hfit := Lib.hid hfit
    have Hb3 := Lib.hid hb3
    have Hbe4 := Lib.hid hbe4
    have gc : w3.cell? ⟨g, 7, none⟩ = some (.int .u8 ((bytesAfter 16 doneFld (doneNum x0 x1 x2 x3) 4).getD 7 0)) := by
      rw [hb3.cell]; simp [List.getD, List.getElem?_eq_getElem (show 7 < (bytesAfter 16 doneFld (doneNum x0 x1 x2 x3) 4).length by rw [hl7.out]; omega)]
    have gf := hb3.free 7
    clear hfit hg hb3 hb3' hbe3 hbe2 hr' hc2 hc3 hr hb2 hs2 hW hbe4
    have hfin : ∀ w' : World, Below w.heap.size w w' → Blk w' g ((doneBytes (doneNum x0 x1 x2 x3) ph).map (Value.int .u8)).toArray 5 → EncDPost w x0 x1 x2 x3 ph (.returned (.tuple #[.slice (some ⟨g, 0, none⟩) 16 16, .nilIface])) w' :=
      fun w' h1 h2 => ⟨h1, .inl ⟨Hfit.out, g, hwg, rfl, h2⟩⟩
    have Hfin := Lib.hid hfin
    clear hfin
    generalize (bytesAfter 16 doneFld (doneNum x0 x1 x2 x3) 4).getD 7 0 = y7 at gc
    cases ph
    · go_wp2
      go_ret2
      exact Hfin.out _ Hbe4.out Hb3.out
    · go_wp2
      go_ret2
      exact Hfin.out _ (Hbe4.out.setCell hwg _) ((Hb3.out.set 7 _).of (map_set_b _ _ _))
  · have Hfin : Hid (EncDPost w x0 x1 x2 x3 ph (.returned (.tuple #[.slice none 0 0, cmdErr 1])) w3) :=
      ⟨hbe2.trans (hbe3.mono hbe2.size), .inr ⟨hno, rfl⟩⟩
    clear hno hbe3 hbe2 hr' hc2 hr hb2 hs2 hW
    unfold cmdErr at Hfin ⊢
    go_wp2
    go_ret2
    exact Hfin.out
end Go.Proofs.YtkehhfgoikbciaaDoor
