/- granarylaw3.CmdBack returns true, and writes nothing that was there (printed by genback.py). -/
import Derived.Test.YtlcjikeolfebnaaDoneLaw
namespace Go.Proofs.Ytlcjikeolfebnaa
open Go.RowKit Go.WideShapes
set_option linter.unusedVariables false

theorem map_cell_b (bs : List Int) (i : Nat) (h : i < bs.length) : ((bs.map (Value.int .u8)).toArray)[i]? = some (.int .u8 (bs.getD i 0)) := by
  simp [List.getD, List.getElem?_eq_getElem h]

set_option maxRecDepth 100000 in
set_option maxHeartbeats 4000000 in
theorem cmdBack_walk (w : World) (x0 x1 x2 x3 x4 x5 : Int) (b0 : I64 x0) (b1 : I64 x1) (b2 : I64 x2) (b3 : I64 x3) (b4 : I64 x4) (b5 : I64 x5)
    (y0 y1 y2 y3 : Int) (ph : Bool) (c0 : IW y0) (c1 : IW y1) (c2 : IW y2) (c3 : IW y3) :
    Calls Try.prog 9 #[cmdV x0 x1 x2 x3 x4 x5, doneV y0 y1 y2 y3 ph] w fun e w' => e = .returned (.bool true) ∧ Below w.heap.size w w' := by
  have HE := Lib.hid (fun w' => cmd_encode x0 x1 x2 x3 x4 x5 w' b0 b1 b2 b3 b4 b5)
  have HD := Lib.hid (fun w' => cmd_encodeDone y0 y1 y2 y3 ph w' c0 c1 c2 c3)
  have H0 := Lib.hid (fun w' => cmd_encodeDone 258 0 0 0 true w' ⟨by omega, by omega⟩ ⟨by omega, by omega⟩ ⟨by omega, by omega⟩ ⟨by omega, by omega⟩)
  clear b0 b1 b2 b3 b4 b5 c0 c1 c2 c3
  unfold cmdV at HE ⊢
  unfold doneV at HD H0 ⊢
  go_enter Try.func9, Try.ntmps9
  go_wp2_with fail
  refine (H0.out _).mono ?_
  rintro e w1 ⟨hw1, h⟩
  rcases h with ⟨_, g, hg, rfl, hb⟩ | ⟨hno, _⟩
  case inr => exact absurd allFit_258 hno
  have hbe1 : Below w.heap.size w w1 := (((Below.refl _ _).alloc (Nat.le_refl _) _).alloc (by simp) _).trans (hw1.mono (by simp; omega))
  have hk1 := (Keep.ofBelow (S := fun _ => False) hw1 (fun k h1 h2 => absurd h1 (by omega)))
  have hc1 : Blk w1 w.heap.size #[.int .i64 x0, .int .i64 x1, .int .i64 x2, .int .i64 x3, .int .i64 x4, .int .i64 x5] 46 := hk1.blk ((Blk.new _ _ _).alloc _) (fun h => h)
  have hd1 : Blk w1 (w.heap.size + 1) #[.int .i64 y0, .int .i64 y1, .int .i64 y2, .int .i64 y3, .bool ph] 68 := by
    have := hk1.blk (Blk.new (w.alloc (.cells #[.int .i64 x0, .int .i64 x1, .int .i64 x2, .int .i64 x3, .int .i64 x4, .int .i64 x5] 46)) #[.int .i64 y0, .int .i64 y1, .int .i64 y2, .int .i64 y3, .bool ph] 68) (fun h => h)
    simpa using this
  rw [bytes_258] at hb
  have g0 : w1.cell? ⟨g, 0, none⟩ = some (.int .u8 2) := hb.cell 0
  have g1 : w1.cell? ⟨g, 1, none⟩ = some (.int .u8 1) := hb.cell 1
  have g7 : w1.cell? ⟨g, 7, none⟩ = some (.int .u8 1) := hb.cell 7
  have q0 := hc1.cell 0
  have q1 := hc1.cell 1
  have q2 := hc1.cell 2
  have q3 := hc1.cell 3
  have q4 := hc1.cell 4
  have q5 := hc1.cell 5
  simp only [List.getElem?_toArray, List.getElem?_cons_zero, List.getElem?_cons_succ] at q0 q1 q2 q3 q4 q5
  have Hc1 := Lib.hid hc1
  have Hd1 := Lib.hid hd1
  have Hbe1 := Lib.hid hbe1
  clear hk1 hw1 hb hg hc1 hd1 hbe1 H0
  obtain ⟨cb, hcb⟩ : ∃ cb, cb = w.heap.size + 1 := ⟨_, rfl⟩
  have hcbl : w.heap.size < cb := by omega
  rw [← hcb] at Hd1 ⊢
  clear hcb
  go_wp2_with fail
  refine (HE.out _).mono ?_
  rintro e w2 ⟨hw2, h⟩
  clear g0 g1 g7 q0 q1 q2 q3 q4 q5
  have hk2 := (Keep.ofBelow (S := fun _ => False) hw2 (fun k h1 h2 => absurd h1 (by omega)))
  have hc2 := hk2.blk Hc1.out (fun h => h)
  have hd2 := hk2.blk Hd1.out (fun h => h)
  have hbe2 := Hbe1.out.trans (hw2.mono Hbe1.out.size)
  clear hk2 hw2 HE Hc1 Hd1 Hbe1
  rcases h with ⟨hfit, g2, hg2, rfl, hb2⟩ | ⟨hno, rfl⟩
  case inr =>
    unfold cmdErr
    clear hno hc2
    have s0 := hd2.cell 0
    have s1 := hd2.cell 1
    have s2 := hd2.cell 2
    have s3 := hd2.cell 3
    have s4 := hd2.cell 4
    simp only [List.getElem?_toArray, List.getElem?_cons_zero, List.getElem?_cons_succ] at s0 s1 s2 s3 s4
    have Hd := Lib.hid hd2
    have Hbe := Lib.hid hbe2
    clear hd2 hbe2
    go_wp2_with fail
    refine (HD.out _).mono ?_
    rintro e w6 ⟨hw6, h⟩
    clear s0 s1 s2 s3 s4
    have hd6 := (Keep.ofBelow (S := fun _ => False) hw6 (fun k h1 h2 => absurd h1 (by omega))).blk Hd.out (fun h => h)
    have hbe6 := Hbe.out.trans (hw6.mono Hbe.out.size)
    clear hw6
    rcases h with ⟨hfit, g6, hg6, rfl, hb6⟩ | ⟨hno, rfl⟩
    case inr =>
      have Hbe6 := Lib.hid hbe6
      clear hbe6 hd6 hno
      unfold cmdErr
      go_wp2
      go_ret
      exact ⟨rfl, Hbe6.out⟩
    have hg6lt := hb6.lt
    have hA := doneAt_written (doneNum y0 y1 y2 y3) ph hfit
    have HDD := Lib.hid (cmd_decodeDone g6 16 (doneBytes (doneNum y0 y1 y2 y3) ph) ph w6 (doneBytes_len _ _) (doneBytes_byte _ _) (doneBytes_seven _ _) hg6lt (fun i hi => by rw [Nat.zero_add, hb6.cell, map_cell_b _ _ (by rw [doneBytes_len]; exact hi)]))
    have Hd6 := Lib.hid hd6
    have Hbe6 := Lib.hid hbe6
    clear hfit hg6 hb6 hd6 hbe6
    go_wp2_with fail
    refine HDD.out.mono ?_
    rintro e w7 ⟨rfl, hw7⟩
    rw [hA 0 (by omega), hA 1 (by omega), hA 2 (by omega), hA 3 (by omega)]
    simp only [doneNum, doneV]
    have hd7 := (Keep.ofBelow (S := fun _ => False) hw7 (fun k h1 h2 => absurd h1 (by omega))).blk Hd6.out (fun h => h)
    have hbe7 := Hbe6.out.trans (hw7.mono Hbe6.out.size)
    clear hw7 hA
    go_wp2_with (with_reducible refine wpList_stop (.store 68 (.tmp 10) (.tmp 70)) rfl ?_)
    refine .inr ?_
    refine wpList_store_row rfl 68 (.tmp 10) (.tmp 70) rfl w7.heap.size #[.int .i64 y0, .int .i64 y1, .int .i64 y2, .int .i64 y3, .bool ph] rfl rfl 68 #[.int .i64 0, .int .i64 0, .int .i64 0, .int .i64 0, .bool false] ?hg10 (by kernel_rfl) rfl (by simp [Value.oneCell']) ?_
    case hg10 => exact Blk.new _ _ _
    have hrow10 : Blk ((w7.alloc (.cells #[.int .i64 0, .int .i64 0, .int .i64 0, .int .i64 0, .bool false] 68)).setRow w7.heap.size #[.int .i64 y0, .int .i64 y1, .int .i64 y2, .int .i64 y3, .bool ph]) w7.heap.size #[.int .i64 y0, .int .i64 y1, .int .i64 y2, .int .i64 y3, .bool ph] 68 := setRow_heap _ w7.heap.size #[.int .i64 0, .int .i64 0, .int .i64 0, .int .i64 0, .bool false] #[.int .i64 y0, .int .i64 y1, .int .i64 y2, .int .i64 y3, .bool ph] 68 (0, 0) (Blk.new _ _ _)
    have hkeep : Keep (fun _ => False) w7 ((w7.alloc (.cells #[.int .i64 0, .int .i64 0, .int .i64 0, .int .i64 0, .bool false] 68)).setRow w7.heap.size #[.int .i64 y0, .int .i64 y1, .int .i64 y2, .int .i64 y3, .bool ph]) := ((Keep.refl _ w7).alloc _).setRow (.inr (Nat.le_refl _)) _
    have hd8 := hkeep.blk hd7 (fun h => h)
    have hbe8 : Below w.heap.size w ((w7.alloc (.cells #[.int .i64 0, .int .i64 0, .int .i64 0, .int .i64 0, .bool false] 68)).setRow w7.heap.size #[.int .i64 y0, .int .i64 y1, .int .i64 y2, .int .i64 y3, .bool ph]) := hbe7.trans (hkeep.below w.heap.size hbe7.size (fun k h => h.elim))
    clear hkeep hd7 hbe7
    generalize (w7.alloc (.cells #[.int .i64 0, .int .i64 0, .int .i64 0, .int .i64 0, .bool false] 68)).setRow w7.heap.size #[.int .i64 y0, .int .i64 y1, .int .i64 y2, .int .i64 y3, .bool ph] = w8 at hrow10 hd8 hbe8 ⊢
    have q0 := hd8.cell 0
    have q1 := hd8.cell 1
    have q2 := hd8.cell 2
    have q3 := hd8.cell 3
    have q4 := hd8.cell 4
    simp only [List.getElem?_toArray, List.getElem?_cons_zero, List.getElem?_cons_succ] at q0 q1 q2 q3 q4
    have r0 := hrow10.cell 0
    have r1 := hrow10.cell 1
    have r2 := hrow10.cell 2
    have r3 := hrow10.cell 3
    have r4 := hrow10.cell 4
    simp only [List.getElem?_toArray, List.getElem?_cons_zero, List.getElem?_cons_succ] at r0 r1 r2 r3 r4
    have Hbe8 := Lib.hid hbe8
    clear hd8 hrow10 hbe8
    go_wp2
    go_ret
    exact ⟨by simp, Hbe8.out⟩

  have hs := says_written _ hfit
  have hlen := hs.len
  have HDE := Lib.hid (cmd_decode g2 0 64 (bytesAfter 64 cmdFld (cmdNum x0 x1 x2 x3 x4 x5) 6) w2 hlen hs.byte hb2.lt (fun i hi => by rw [Nat.zero_add, hb2.cell, map_cell_b _ _ (by rw [hlen]; exact hi)]))
  have Hs := Lib.hid hs
  have Hc2 := Lib.hid hc2
  have Hd2 := Lib.hid hd2
  have Hbe2 := Lib.hid hbe2
  clear hfit hg2 hs hlen hb2 hc2 hd2 hbe2
  go_wp2_with fail
  refine HDE.out.mono ?_
  rintro e w3 ⟨hw3, h⟩
  rcases h with ⟨_, rfl⟩ | ⟨hno, _⟩
  case inr => exact absurd Hs.out.ok hno
  have e0 := Hs.out.num 0 (by omega)
  have e1 := Hs.out.num 1 (by omega)
  have e2 := Hs.out.num 2 (by omega)
  have e3 := Hs.out.num 3 (by omega)
  have e4 := Hs.out.num 4 (by omega)
  have e5 := Hs.out.num 5 (by omega)
  simp only [cmdNum] at e0 e1 e2 e3 e4 e5
  rw [e0, e1, e2, e3, e4, e5]
  have hk3 := (Keep.ofBelow (S := fun _ => False) hw3 (fun k h1 h2 => absurd h1 (by omega)))
  have hc3 := hk3.blk Hc2.out (fun h => h)
  have hd3 := hk3.blk Hd2.out (fun h => h)
  have hbe3 := Hbe2.out.trans (hw3.mono Hbe2.out.size)
  clear e0 e1 e2 e3 e4 e5 hw3 hk3 Hs HDE Hc2 Hd2 Hbe2
  unfold cmdV
  go_wp2_with (with_reducible refine wpList_stop (.store 46 (.tmp 8) (.tmp 51)) rfl ?_)
  refine .inr ?_
  refine wpList_store_row rfl 46 (.tmp 8) (.tmp 51) rfl w3.heap.size #[.int .i64 x0, .int .i64 x1, .int .i64 x2, .int .i64 x3, .int .i64 x4, .int .i64 x5] rfl rfl 46 #[.int .i64 0, .int .i64 0, .int .i64 0, .int .i64 0, .int .i64 0, .int .i64 0] ?hg8 (by kernel_rfl) rfl (by simp [Value.oneCell']) ?_
  case hg8 => exact Blk.new _ _ _
  have hrow8 : Blk ((w3.alloc (.cells #[.int .i64 0, .int .i64 0, .int .i64 0, .int .i64 0, .int .i64 0, .int .i64 0] 46)).setRow w3.heap.size #[.int .i64 x0, .int .i64 x1, .int .i64 x2, .int .i64 x3, .int .i64 x4, .int .i64 x5]) w3.heap.size #[.int .i64 x0, .int .i64 x1, .int .i64 x2, .int .i64 x3, .int .i64 x4, .int .i64 x5] 46 := setRow_heap _ w3.heap.size #[.int .i64 0, .int .i64 0, .int .i64 0, .int .i64 0, .int .i64 0, .int .i64 0] #[.int .i64 x0, .int .i64 x1, .int .i64 x2, .int .i64 x3, .int .i64 x4, .int .i64 x5] 46 (0, 0) (Blk.new _ _ _)
  have hkeep : Keep (fun _ => False) w3 ((w3.alloc (.cells #[.int .i64 0, .int .i64 0, .int .i64 0, .int .i64 0, .int .i64 0, .int .i64 0] 46)).setRow w3.heap.size #[.int .i64 x0, .int .i64 x1, .int .i64 x2, .int .i64 x3, .int .i64 x4, .int .i64 x5]) := ((Keep.refl _ w3).alloc _).setRow (.inr (Nat.le_refl _)) _
  have hc4 := hkeep.blk hc3 (fun h => h)
  have hd4 := hkeep.blk hd3 (fun h => h)
  have hbe4 : Below w.heap.size w ((w3.alloc (.cells #[.int .i64 0, .int .i64 0, .int .i64 0, .int .i64 0, .int .i64 0, .int .i64 0] 46)).setRow w3.heap.size #[.int .i64 x0, .int .i64 x1, .int .i64 x2, .int .i64 x3, .int .i64 x4, .int .i64 x5]) := hbe3.trans (hkeep.below w.heap.size hbe3.size (fun k h => h.elim))
  clear hkeep hc3 hd3 hbe3
  generalize (w3.alloc (.cells #[.int .i64 0, .int .i64 0, .int .i64 0, .int .i64 0, .int .i64 0, .int .i64 0] 46)).setRow w3.heap.size #[.int .i64 x0, .int .i64 x1, .int .i64 x2, .int .i64 x3, .int .i64 x4, .int .i64 x5] = w4 at hrow8 hc4 hd4 hbe4 ⊢
  have q0 := hc4.cell 0
  have q1 := hc4.cell 1
  have q2 := hc4.cell 2
  have q3 := hc4.cell 3
  have q4 := hc4.cell 4
  have q5 := hc4.cell 5
  simp only [List.getElem?_toArray, List.getElem?_cons_zero, List.getElem?_cons_succ] at q0 q1 q2 q3 q4 q5
  have r0 := hrow8.cell 0
  have r1 := hrow8.cell 1
  have r2 := hrow8.cell 2
  have r3 := hrow8.cell 3
  have r4 := hrow8.cell 4
  have r5 := hrow8.cell 5
  simp only [List.getElem?_toArray, List.getElem?_cons_zero, List.getElem?_cons_succ] at r0 r1 r2 r3 r4 r5
  clear hc4 hrow8
  have s0 := hd4.cell 0
  have s1 := hd4.cell 1
  have s2 := hd4.cell 2
  have s3 := hd4.cell 3
  have s4 := hd4.cell 4
  simp only [List.getElem?_toArray, List.getElem?_cons_zero, List.getElem?_cons_succ] at s0 s1 s2 s3 s4
  have Hd := Lib.hid hd4
  have Hbe := Lib.hid hbe4
  clear hd4 hbe4
  go_wp2_with fail
  refine (HD.out _).mono ?_
  rintro e w6 ⟨hw6, h⟩
  clear q0 q1 q2 q3 q4 q5 r0 r1 r2 r3 r4 r5 s0 s1 s2 s3 s4
  have hd6 := (Keep.ofBelow (S := fun _ => False) hw6 (fun k h1 h2 => absurd h1 (by omega))).blk Hd.out (fun h => h)
  have hbe6 := Hbe.out.trans (hw6.mono Hbe.out.size)
  clear hw6
  rcases h with ⟨hfit, g6, hg6, rfl, hb6⟩ | ⟨hno, rfl⟩
  case inr =>
    have Hbe6 := Lib.hid hbe6
    clear hbe6 hd6 hno
    unfold cmdErr
    go_wp2
    go_ret
    exact ⟨rfl, Hbe6.out⟩
  have hg6lt := hb6.lt
  have hA := doneAt_written (doneNum y0 y1 y2 y3) ph hfit
  have HDD := Lib.hid (cmd_decodeDone g6 16 (doneBytes (doneNum y0 y1 y2 y3) ph) ph w6 (doneBytes_len _ _) (doneBytes_byte _ _) (doneBytes_seven _ _) hg6lt (fun i hi => by rw [Nat.zero_add, hb6.cell, map_cell_b _ _ (by rw [doneBytes_len]; exact hi)]))
  have Hd6 := Lib.hid hd6
  have Hbe6 := Lib.hid hbe6
  clear hfit hg6 hb6 hd6 hbe6
  go_wp2_with fail
  refine HDD.out.mono ?_
  rintro e w7 ⟨rfl, hw7⟩
  rw [hA 0 (by omega), hA 1 (by omega), hA 2 (by omega), hA 3 (by omega)]
  simp only [doneNum, doneV]
  have hd7 := (Keep.ofBelow (S := fun _ => False) hw7 (fun k h1 h2 => absurd h1 (by omega))).blk Hd6.out (fun h => h)
  have hbe7 := Hbe6.out.trans (hw7.mono Hbe6.out.size)
  clear hw7 hA
  go_wp2_with (with_reducible refine wpList_stop (.store 68 (.tmp 10) (.tmp 70)) rfl ?_)
  refine .inr ?_
  refine wpList_store_row rfl 68 (.tmp 10) (.tmp 70) rfl w7.heap.size #[.int .i64 y0, .int .i64 y1, .int .i64 y2, .int .i64 y3, .bool ph] rfl rfl 68 #[.int .i64 0, .int .i64 0, .int .i64 0, .int .i64 0, .bool false] ?hg10 (by kernel_rfl) rfl (by simp [Value.oneCell']) ?_
  case hg10 => exact Blk.new _ _ _
  have hrow10 : Blk ((w7.alloc (.cells #[.int .i64 0, .int .i64 0, .int .i64 0, .int .i64 0, .bool false] 68)).setRow w7.heap.size #[.int .i64 y0, .int .i64 y1, .int .i64 y2, .int .i64 y3, .bool ph]) w7.heap.size #[.int .i64 y0, .int .i64 y1, .int .i64 y2, .int .i64 y3, .bool ph] 68 := setRow_heap _ w7.heap.size #[.int .i64 0, .int .i64 0, .int .i64 0, .int .i64 0, .bool false] #[.int .i64 y0, .int .i64 y1, .int .i64 y2, .int .i64 y3, .bool ph] 68 (0, 0) (Blk.new _ _ _)
  have hkeep : Keep (fun _ => False) w7 ((w7.alloc (.cells #[.int .i64 0, .int .i64 0, .int .i64 0, .int .i64 0, .bool false] 68)).setRow w7.heap.size #[.int .i64 y0, .int .i64 y1, .int .i64 y2, .int .i64 y3, .bool ph]) := ((Keep.refl _ w7).alloc _).setRow (.inr (Nat.le_refl _)) _
  have hd8 := hkeep.blk hd7 (fun h => h)
  have hbe8 : Below w.heap.size w ((w7.alloc (.cells #[.int .i64 0, .int .i64 0, .int .i64 0, .int .i64 0, .bool false] 68)).setRow w7.heap.size #[.int .i64 y0, .int .i64 y1, .int .i64 y2, .int .i64 y3, .bool ph]) := hbe7.trans (hkeep.below w.heap.size hbe7.size (fun k h => h.elim))
  clear hkeep hd7 hbe7
  generalize (w7.alloc (.cells #[.int .i64 0, .int .i64 0, .int .i64 0, .int .i64 0, .bool false] 68)).setRow w7.heap.size #[.int .i64 y0, .int .i64 y1, .int .i64 y2, .int .i64 y3, .bool ph] = w8 at hrow10 hd8 hbe8 ⊢
  have q0 := hd8.cell 0
  have q1 := hd8.cell 1
  have q2 := hd8.cell 2
  have q3 := hd8.cell 3
  have q4 := hd8.cell 4
  simp only [List.getElem?_toArray, List.getElem?_cons_zero, List.getElem?_cons_succ] at q0 q1 q2 q3 q4
  have r0 := hrow10.cell 0
  have r1 := hrow10.cell 1
  have r2 := hrow10.cell 2
  have r3 := hrow10.cell 3
  have r4 := hrow10.cell 4
  simp only [List.getElem?_toArray, List.getElem?_cons_zero, List.getElem?_cons_succ] at r0 r1 r2 r3 r4
  have Hbe8 := Lib.hid hbe8
  clear hd8 hrow10 hbe8
  go_wp2
  go_ret
  exact ⟨by simp, Hbe8.out⟩
end Go.Proofs.Ytlcjikeolfebnaa
