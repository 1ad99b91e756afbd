/- cmd.Encode. -/
import Derived.Test.YtkehhfgoikbciaaDoorCmdA
import Derived.Test.YtkehhfgoikbciaaDoorCmdW
namespace Go.Proofs.YtkehhfgoikbciaaDoor
open Go.RowKit Go.WideShapes
set_option linter.unusedVariables false

/-- the fields of a command -/
def cmdFld : Nat → Fld
  | 0 => ⟨0, 1, 0⟩
  | 1 => ⟨2, 2, 1⟩
  | 2 => ⟨8, 8, 2⟩
  | 3 => ⟨16, 4, 3⟩
  | 4 => ⟨24, 8, 4⟩
  | _ => ⟨32, 8, 5⟩
def cmdNum (x0 x1 x2 x3 x4 x5 : Int) : Nat → Int
  | 0 => x0
  | 1 => x1
  | 2 => x2
  | 3 => x3
  | 4 => x4
  | _ => x5
def cmdV (x0 x1 x2 x3 x4 x5 : Int) : Value := .agg #[.int .i64 x0, .int .i64 x1, .int .i64 x2, .int .i64 x3, .int .i64 x4, .int .i64 x5]
theorem six {P : Nat → Prop} (h0 : P 0) (h1 : P 1) (h2 : P 2) (h3 : P 3) (h4 : P 4) (h5 : P 5) : ∀ k, k < 6 → P k := by
  intro k hk
  rcases (by omega : k = 0 ∨ k = 1 ∨ k = 2 ∨ k = 3 ∨ k = 4 ∨ k = 5) with rfl | rfl | rfl | rfl | rfl | rfl <;> assumption

/-- what Encode tells -/
def EncPost (w : World) (x0 x1 x2 x3 x4 x5 : Int) (e : Ending) (w' : World) : Prop :=
  Below w.heap.size w w' ∧ ((allFit cmdFld (cmdNum x0 x1 x2 x3 x4 x5) 6 ∧ ∃ g, w.heap.size ≤ g ∧ e = .returned (.tuple #[.slice (some ⟨g, 0, none⟩) 64 64, .nilIface]) ∧ Blk w' g ((bytesAfter 64 cmdFld (cmdNum x0 x1 x2 x3 x4 x5) 6).map (Value.int .u8)).toArray 5) ∨
    (¬ allFit cmdFld (cmdNum x0 x1 x2 x3 x4 x5) 6 ∧ e = .returned (.tuple #[.slice none 0 0, cmdErr 1])))
def I64 (x : Int) : Prop := -9223372036854775808 ≤ x ∧ x ≤ 9223372036854775807

set_option maxRecDepth 100000 in
set_option maxHeartbeats 4000000 in
theorem cmd_encode (x0 x1 x2 x3 x4 x5 : Int) (w : World) (b0 : I64 x0) (b1 : I64 x1) (b2 : I64 x2) (b3 : I64 x3) (b4 : I64 x4) (b5 : I64 x5) :
    Calls Tryd.prog 36 #[cmdV x0 x1 x2 x3 x4 x5] w (EncPost w x0 x1 x2 x3 x4 x5) := by
  have HB := Lib.hid (six (P := fun k => -9223372036854775808 ≤ cmdNum x0 x1 x2 x3 x4 x5 k ∧ cmdNum x0 x1 x2 x3 x4 x5 k ≤ 9223372036854775807) b0 b1 b2 b3 b4 b5)
  clear b0 b1 b2 b3 b4 b5
  unfold cmdV
  go_enter Tryd.func36, Tryd.ntmps36
  go_wp2_with fail
  refine (cmd_command w.heap.size _ (by simp)).mono ?_
  rintro e w1 ⟨rfl, hw1⟩
  have hc1 : Blk w1 w.heap.size #[.int .i64 x0, .int .i64 x1, .int .i64 x2, .int .i64 x3, .int .i64 x4, .int .i64 x5] 63 := (Keep.ofBelow (S := fun _ => False) hw1 (fun k h1 h2 => absurd h1 (by omega))).blk (Blk.new _ _ _) (fun h => h)
  have hbe1 : Below w.heap.size w w1 := ((Below.refl _ _).alloc (Nat.le_refl _) _).trans (hw1.mono (by simp))
  have Hc1 := Lib.hid hc1
  have Hbe1 := Lib.hid hbe1
  have hl1 := hc1.lt
  clear hw1 hc1 hbe1
  go_wp2_with (with_reducible refine wpList_store_row rfl 160 (.tmp 4) (.tmp 5) rfl w1.heap.size (commandCells w.heap.size) rfl rfl 160 zeroPairs6 ?hg (by kernel_rfl) rfl (by simp [commandCells, Value.oneCell']) ?_)
  case hg => exact Blk.new _ _ _
  have hr := setRow_heap (w1.alloc (.cells zeroPairs6 160)) w1.heap.size zeroPairs6 (commandCells w.heap.size) 160 (0, 0) (Blk.new _ _ _)
  have hb2 : Below w1.heap.size w1 ((w1.alloc (.cells zeroPairs6 160)).setRow w1.heap.size (commandCells w.heap.size)) := below_setRow ((Below.refl _ _).alloc (Nat.le_refl _) _) (Nat.le_refl _) _
  have hs2 : w1.heap.size < ((w1.alloc (.cells zeroPairs6 160)).setRow w1.heap.size (commandCells w.heap.size)).heap.size := by simp
  change Calls _ _ _ ((w1.alloc (.cells zeroPairs6 160)).setRow w1.heap.size (commandCells w.heap.size)) _
  generalize hW : (w1.alloc (.cells zeroPairs6 160)).setRow w1.heap.size (commandCells w.heap.size) = W2 at hr hb2 hs2 ⊢
  have hc2 : Blk W2 w.heap.size #[.int .i64 x0, .int .i64 x1, .int .i64 x2, .int .i64 x3, .int .i64 x4, .int .i64 x5] 63 := (Keep.ofBelow (S := fun _ => False) hb2 (fun k h1 h2 => absurd h1 (by omega))).blk Hc1.out (fun h => h)
  have hr' : Blk W2 w1.heap.size (commandCells w.heap.size) 160 := hr
  have hbe2 : Below w.heap.size w W2 := Hbe1.out.trans (hb2.mono Hbe1.out.size)
  refine (cmd_written 64 6 w1.heap.size 6 w.heap.size cmdFld (cmdNum x0 x1 x2 x3 x4 x5) W2 (by omega) (by omega) hs2 hc2.lt
    (six (P := fun k => (cmdFld k).p + (cmdFld k).L ≤ 64 ∧ ((cmdFld k).L = 1 ∨ (cmdFld k).L = 2 ∨ (cmdFld k).L = 4 ∨ (cmdFld k).L = 8)) (by simp [cmdFld]) (by simp [cmdFld]) (by simp [cmdFld]) (by simp [cmdFld]) (by simp [cmdFld]) (by simp [cmdFld]))
    HB.out
    (six (P := fun k => W2.cell? ⟨w1.heap.size, k * 3, none⟩ = some (.int .i64 ((cmdFld k).p : Nat)) ∧ W2.cell? ⟨w1.heap.size, k * 3 + 1, none⟩ = some (.int .i64 ((cmdFld k).L : Nat)) ∧ W2.cell? ⟨w1.heap.size, k * 3 + 2, none⟩ = some (.pointer (some ⟨w.heap.size, (cmdFld k).off, none⟩)))
      ⟨hr'.cell 0, hr'.cell 1, hr'.cell 2⟩ ⟨hr'.cell 3, hr'.cell 4, hr'.cell 5⟩ ⟨hr'.cell 6, hr'.cell 7, hr'.cell 8⟩ ⟨hr'.cell 9, hr'.cell 10, hr'.cell 11⟩ ⟨hr'.cell 12, hr'.cell 13, hr'.cell 14⟩ ⟨hr'.cell 15, hr'.cell 16, hr'.cell 17⟩)
    (six (P := fun k => W2.cell? ⟨w.heap.size, (cmdFld k).off, none⟩ = some (.int .i64 (cmdNum x0 x1 x2 x3 x4 x5 k))) (hc2.cell 0) (hc2.cell 1) (hc2.cell 2) (hc2.cell 3) (hc2.cell 4) (hc2.cell 5))).mono ?_
  rintro e w3 ⟨hbe3, ⟨hfit, g, hg, rfl, hb3⟩ | ⟨hno, rfl⟩⟩
  · have Hfin : Hid (EncPost w x0 x1 x2 x3 x4 x5 (.returned (.tuple #[.slice (some ⟨g, 0, none⟩) 64 64, .nilIface])) w3) :=
      ⟨hbe2.trans (hbe3.mono hbe2.size), .inl ⟨hfit, g, by have := hbe2.size; omega, rfl, hb3⟩⟩
    clear hfit hg hb3 hbe3 hbe2 hr' hc2 hr hb2 hs2 hW
    go_wp2
    go_ret2
    exact Hfin.out
  · have Hfin : Hid (EncPost w x0 x1 x2 x3 x4 x5 (.returned (.tuple #[.slice none 0 0, cmdErr 1])) w3) :=
      ⟨hbe2.trans (hbe3.mono hbe2.size), .inr ⟨hno, rfl⟩⟩
    clear hno hbe3 hbe2 hr' hc2 hr hb2 hs2 hW
    unfold cmdErr at Hfin ⊢
    go_wp2
    go_ret2
    exact Hfin.out
end Go.Proofs.YtkehhfgoikbciaaDoor
