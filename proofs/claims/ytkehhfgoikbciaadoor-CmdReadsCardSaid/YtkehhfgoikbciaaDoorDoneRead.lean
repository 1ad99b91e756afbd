/- granaryref2.DoneRead. -/
import Derived.Test.YtkehhfgoikbciaaDoorDoneD2
import Derived.Test.YtkehhfgoikbciaaDoorNumberAt
import Derived.BigRegion
import Derived.Deep.RegionHeld3
import Derived.BigQuiet
namespace Go.Proofs.YtkehhfgoikbciaaDoor
open Go.RowKit Go.WideShapes
set_option linter.unusedVariables false

theorem drop_cons' (bs : List Int) (i : Nat) (h : i < bs.length) : bs.drop i = bs.getD i 0 :: bs.drop (i + 1) := by
  rw [List.drop_eq_getElem_cons h]
  simp [List.getD, h]
theorem doneAt_zero (bs : List Int) (h : bs.length = 16) : doneAt bs 0 = bs.getD 0 0 + 256 * bs.getD 1 0 := by
  show leNum ((bs.drop 0).take 2) = _
  rw [drop_cons' bs 0 (by omega), drop_cons' bs (0 + 1) (by omega)]
  simp [leNum]
theorem doneAt_one (bs : List Int) (h : bs.length = 16) : doneAt bs 1 = bs.getD 2 0 + 256 * bs.getD 3 0 := by
  show leNum ((bs.drop 2).take 2) = _
  rw [drop_cons' bs 2 (by omega), drop_cons' bs (2 + 1) (by omega)]
  simp [leNum]
theorem doneAt_two (bs : List Int) (h : bs.length = 16) : doneAt bs 2 = bs.getD 4 0 + 256 * bs.getD 5 0 := by
  show leNum ((bs.drop 4).take 2) = _
  rw [drop_cons' bs 4 (by omega), drop_cons' bs (4 + 1) (by omega)]
  simp [leNum]
theorem doneAt_three (bs : List Int) (h : bs.length = 16) : doneAt bs 3 = bs.getD 6 0 := by
  show leNum ((bs.drop 6).take 1) = _
  rw [drop_cons' bs 6 (by omega)]
  simp [leNum]

set_option maxRecDepth 100000 in
set_option maxHeartbeats 4000000 in
theorem done_read_bad (a : Option Addr) (n c : Nat) (w : World) (hn : n ≤ 9223372036854775807) (h : n ≠ 16) :
    Calls Tryd.prog 46 #[.slice a n c] w fun e w' => e = .returned (.tuple #[doneV 0 0 0 0 false, .int .i64 2]) ∧ Below w.heap.size w w' := by
  have hne : ((n : Int) == 16) = false := by simp; omega
  clear h
  go_enter Tryd.func46, Tryd.ntmps46
  go_wp2
  exact bodyPost_ret (v := .tuple #[doneV 0 0 0 0 false, .int .i64 2]) (by simp [results, Tryd.results46, go_sem, doneV]) rfl ⟨rfl, by (repeat (first | with_reducible exact Below.refl _ _ | with_reducible apply Below.drew | with_reducible apply below_drewN | (with_reducible refine Below.alloc ?_ (by simp) _) | (with_reducible refine Below.setCell ?_ (by simp) _)))⟩

set_option maxRecDepth 100000 in
set_option maxHeartbeats 4000000 in
theorem done_read (bb off c : Nat) (bs : List Int) (ph : Bool) (w : World) (hbs : bs.length = 16) (hbyte : ∀ x ∈ bs, 0 ≤ x ∧ x ≤ 255) (h7 : (bs.getD 7 0 % 2 == 1) = ph) (hbl : bb < w.heap.size)
    (hc : ∀ i, i < 16 → w.cell? ⟨bb, off + i, none⟩ = some (.int .u8 (bs.getD i 0))) :
    Calls Tryd.prog 46 #[.slice (some ⟨bb, off, none⟩) 16 c] w fun e w' => e = .returned (.tuple #[doneV (doneAt bs 0) (doneAt bs 1) (doneAt bs 2) (doneAt bs 3) ph, .int .i64 0]) ∧ Below w.heap.size w w' := by
  have hb : ∀ i, i < 16 → 0 ≤ bs.getD i 0 ∧ bs.getD i 0 ≤ 255 := fun i hi => hbyte _ (by simp [List.getD, show i < bs.length by omega])
  have HB := Lib.hid hb
  have Hc := Lib.hid hc
  have Hbyte := Lib.hid hbyte
  have H7 := Lib.hid h7
  clear hb hc hbyte h7
  go_enter Tryd.func46, Tryd.ntmps46
  go_wp2_with fail
  have hB0 : Blk (w.alloc (.cells zero5 65)) w.heap.size zero5 65 := Blk.new _ _ _
  have hbe0 : Below w.heap.size w (w.alloc (.cells zero5 65)) := (Below.refl _ _).alloc (Nat.le_refl _) _
  have hc0 := fun i (hi : i < 16) => (hbe0.cell (p := ⟨bb, off + i, none⟩) hbl).trans (Hc.out i hi)
  have c0 := hc0 0 (by omega)
  rw [Nat.add_zero] at c0
  have c1 := hc0 1 (by omega)
  have c2 := hc0 2 (by omega)
  have c3 := hc0 3 (by omega)
  have c4 := hc0 4 (by omega)
  have c5 := hc0 5 (by omega)
  have k0 := HB.out 0 (by omega)
  have k1 := HB.out 1 (by omega)
  have k2 := HB.out 2 (by omega)
  have k3 := HB.out 3 (by omega)
  have k4 := HB.out 4 (by omega)
  have k5 := HB.out 5 (by omega)
  clear hc0
  unfold zero5 at *
  have hlt1 := hB0.lt
  have HB0 := Lib.hid hB0
  have Hbe0 := Lib.hid hbe0
  clear hB0 hbe0
  have X0 := Lib.hid (doneAt_zero bs hbs)
  have X1 := Lib.hid (doneAt_one bs hbs)
  have X2 := Lib.hid (doneAt_two bs hbs)
  have X3 := Lib.hid (doneAt_three bs hbs)
  generalize bs.getD 0 0 = b0 at c0 k0 X0
  generalize bs.getD 1 0 = b1 at c1 k1 X0
  generalize bs.getD 2 0 = b2 at c2 k2 X1
  generalize bs.getD 3 0 = b3 at c3 k3 X1
  generalize bs.getD 4 0 = b4 at c4 k4 X2
  generalize bs.getD 5 0 = b5 at c5 k5 X2
  generalize w.alloc _ = w1 at *
  have hb1 : bb < w1.heap.size := by omega
  have u0 : IntKind.i64.wrap b0 = b0 := IntWalk.i64_in _ (by omega)
  have u1 : IntKind.i64.wrap b1 = b1 := IntWalk.i64_in _ (by omega)
  have u2 : IntKind.i64.wrap b2 = b2 := IntWalk.i64_in _ (by omega)
  have u3 : IntKind.i64.wrap b3 = b3 := IntWalk.i64_in _ (by omega)
  have u4 : IntKind.i64.wrap b4 = b4 := IntWalk.i64_in _ (by omega)
  have u5 : IntKind.i64.wrap b5 = b5 := IntWalk.i64_in _ (by omega)
  have m1 : IntKind.i64.wrap (256 * b1) = 256 * b1 := IntWalk.i64_in _ (by omega)
  have m3 : IntKind.i64.wrap (256 * b3) = 256 * b3 := IntWalk.i64_in _ (by omega)
  have m5 : IntKind.i64.wrap (256 * b5) = 256 * b5 := IntWalk.i64_in _ (by omega)
  have s0 : IntKind.i64.wrap (b0 + 256 * b1) = b0 + 256 * b1 := IntWalk.i64_in _ (by omega)
  have s2 : IntKind.i64.wrap (b2 + 256 * b3) = b2 + 256 * b3 := IntWalk.i64_in _ (by omega)
  have s4 : IntKind.i64.wrap (b4 + 256 * b5) = b4 + 256 * b5 := IntWalk.i64_in _ (by omega)
  go_region_held3 (fun w' => w'.cell? ⟨bb, off, none⟩ = some (.int .u8 b0) ∧ w'.cell? ⟨bb, off + 1, none⟩ = some (.int .u8 b1) ∧ w'.cell? ⟨bb, off + 2, none⟩ = some (.int .u8 b2) ∧ w'.cell? ⟨bb, off + 3, none⟩ = some (.int .u8 b3) ∧ w'.cell? ⟨bb, off + 4, none⟩ = some (.int .u8 b4) ∧ w'.cell? ⟨bb, off + 5, none⟩ = some (.int .u8 b5)) (go_keep) (first | (fail))
  try simp only [u0, u1, u2, u3, u4, u5, m1, m3, m5, s0, s2, s4]
  rw [← X0.out, ← X1.out, ← X2.out]
  obtain ⟨x0, hx0⟩ : ∃ x, x = doneAt bs 0 := ⟨_, rfl⟩
  obtain ⟨x1, hx1⟩ : ∃ x, x = doneAt bs 1 := ⟨_, rfl⟩
  obtain ⟨x2, hx2⟩ : ∃ x, x = doneAt bs 2 := ⟨_, rfl⟩
  obtain ⟨x3, hx3⟩ : ∃ x, x = doneAt bs 3 := ⟨_, rfl⟩
  rw [← hx0, ← hx1, ← hx2]
  rw [← hx3] at X3
  have Hx0 := Lib.hid hx0
  have Hx1 := Lib.hid hx1
  have Hx2 := Lib.hid hx2
  have Hx3 := Lib.hid hx3
  have hB1 := (Blk.new w1 #[.int .i64 x0, .int .i64 x1, .int .i64 x2, .int .i64 0, .bool false] 65).drew
  obtain ⟨cb, hcb⟩ : ∃ cb, cb = w1.heap.size := ⟨_, rfl⟩
  rw [← hcb] at hB1 ⊢
  have hB2 : Blk (w1.alloc (.cells #[.int .i64 x0, .int .i64 x1, .int .i64 x2, .int .i64 0, .bool false] 65)).drew w.heap.size _ _ := (HB0.out.alloc _).drew
  have hbe2 : Below w.heap.size w (w1.alloc (.cells #[.int .i64 x0, .int .i64 x1, .int .i64 x2, .int .i64 0, .bool false] 65)).drew := by
    have h := Hbe0.out.alloc Hbe0.out.size (.cells #[.int .i64 x0, .int .i64 x1, .int .i64 x2, .int .i64 0, .bool false] 65)
    exact ⟨h.os, h.tape, h.output, h.size, h.block⟩
  have hcbl : w.heap.size < cb := by omega
  clear u0 u1 u2 u3 u4 u5 m1 m3 m5 s0 s2 s4 c0 c1 c2 c3 c4 c5 k0 k1 k2 k3 k4 k5 hlt1 hcb hb1 HB0 Hbe0 X0 X1 X2 hx0 hx1 hx2 hx3
  generalize (w1.alloc (.cells #[.int .i64 x0, .int .i64 x1, .int .i64 x2, .int .i64 0, .bool false] 65)).drew = w2 at hB1 hB2 hbe2 ⊢
  have c6 := (hbe2.cell (p := ⟨bb, off + 6, none⟩) hbl).trans (Hc.out 6 (by omega))
  have c7 := (hbe2.cell (p := ⟨bb, off + 7, none⟩) hbl).trans (Hc.out 7 (by omega))
  have k6 := HB.out 6 (by omega)
  have k7 := HB.out 7 (by omega)
  rw [← X3.out] at c6 k6
  have h7 := H7.out
  generalize bs.getD 7 0 = b7 at c7 k7 h7
  have t6 : IntKind.i64.wrap x3 = x3 := IntWalk.i64_in _ (by omega)
  have t7 : Int.tmod b7 2 = b7 % 2 := Int.tmod_eq_emod_of_nonneg (by omega)
  have g3 : w2.cell? ⟨cb, 3, none⟩ = some (.int .i64 0) := hB1.cell 3
  have g4 : w2.cell? ⟨cb, 4, none⟩ = some (.bool false) := hB1.cell 4
  have f3 := hB1.free 3
  have f4 := hB1.free 4
  have hne7 : bb ≠ cb := by have := hbe2.size; omega
  have hset : Blk ((w2.setCell ⟨cb, 3, none⟩ (.int .i64 x3)).setCell ⟨cb, 4, none⟩ (.bool ph)) cb #[.int .i64 x0, .int .i64 x1, .int .i64 x2, .int .i64 x3, .bool ph] 65 := ((hB1.set 3 (.int .i64 x3)).set 4 (.bool ph)).of (by simp)
  have hrr : Blk ((w2.setCell ⟨cb, 3, none⟩ (.int .i64 x3)).setCell ⟨cb, 4, none⟩ (.bool ph)) w.heap.size _ 65 := (hB2.setOther (by simp; omega) _).setOther (by simp; omega) _
  have hbe : Below w.heap.size w ((w2.setCell ⟨cb, 3, none⟩ (.int .i64 x3)).setCell ⟨cb, 4, none⟩ (.bool ph)) := (hbe2.setCell (by simp; omega) _).setCell (by simp; omega) _
  have Hset := Lib.hid hset
  have Hrr := Lib.hid hrr
  have Hbee := Lib.hid hbe
  clear hset hrr hbe hB1 hB2 hbe2 HB Hc Hbyte H7 X3
  go_wp2_with (with_reducible refine wpList_stop (.load 65 (.tmp 4)) rfl ?_)
  refine .inr ?_
  clear c6 c7 k6 k7 h7 t6 t7 g3 g4 f3 f4
  generalize (w2.setCell ⟨cb, 3, none⟩ (.int .i64 x3)).setCell ⟨cb, 4, none⟩ (.bool ph) = W2 at *
  have p0 := Hset.out.cell 0
  have p1 := Hset.out.cell 1
  have p2 := Hset.out.cell 2
  have p3 := Hset.out.cell 3
  have p4 := Hset.out.cell 4
  simp only [List.getElem?_toArray, List.getElem?_cons_zero, List.getElem?_cons_succ] at p0 p1 p2 p3 p4
  go_wp2_with (with_reducible refine wpList_stop (.store 65 (.tmp 2) (.tmp 51)) rfl ?_)
  refine .inr ?_
  refine wpList_store_row rfl 65 (.tmp 2) (.tmp 51) rfl w.heap.size #[.int .i64 x0, .int .i64 x1, .int .i64 x2, .int .i64 x3, .bool ph] rfl rfl 65 _ Hrr.out (by kernel_rfl) rfl (by simp [Value.oneCell']) ?_
  have hrow := setRow_heap W2 w.heap.size _ #[.int .i64 x0, .int .i64 x1, .int .i64 x2, .int .i64 x3, .bool ph] 65 (0, 0) Hrr.out
  have hbe2 := below_setRow Hbee.out (Nat.le_refl w.heap.size) #[.int .i64 x0, .int .i64 x1, .int .i64 x2, .int .i64 x3, .bool ph]
  clear p0 p1 p2 p3 p4 Hset Hrr Hbee
  generalize W2.setRow w.heap.size #[.int .i64 x0, .int .i64 x1, .int .i64 x2, .int .i64 x3, .bool ph] = W3 at hrow hbe2 ⊢
  have hrow' : Blk W3 w.heap.size #[.int .i64 x0, .int .i64 x1, .int .i64 x2, .int .i64 x3, .bool ph] 65 := hrow
  have q0 := hrow'.cell 0
  have q1 := hrow'.cell 1
  have q2 := hrow'.cell 2
  have q3 := hrow'.cell 3
  have q4 := hrow'.cell 4
  simp only [List.getElem?_toArray, List.getElem?_cons_zero, List.getElem?_cons_succ] at q0 q1 q2 q3 q4
  have Hbe2 := Lib.hid hbe2
  clear hrow hrow' hbe2
  go_wp2
  exact bodyPost_ret (v := .tuple #[doneV x0 x1 x2 x3 ph, .int .i64 0]) (by simp [results, Tryd.results46, go_sem, doneV, q0, q1, q2, q3, q4]) rfl ⟨by rw [Hx0.out, Hx1.out, Hx2.out, Hx3.out], Hbe2.out⟩
end Go.Proofs.YtkehhfgoikbciaaDoor
