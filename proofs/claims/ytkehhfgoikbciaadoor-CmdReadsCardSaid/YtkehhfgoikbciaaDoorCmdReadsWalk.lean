/- granarylaw3.CmdReads returns true, and writes nothing that was there (printed by gencr.py). -/
import Derived.Test.YtkehhfgoikbciaaDoorCmdRead
import Derived.Test.YtkehhfgoikbciaaDoorDoneRead
import Derived.Test.YtkehhfgoikbciaaDoorTold
import Derived.Test.YtkehhfgoikbciaaDoorBytes
namespace Go.Proofs.YtkehhfgoikbciaaDoor
open Go.RowKit Go.WideShapes
set_option linter.unusedVariables false

/-- bytes that came in, at whatever later world -/
theorem row_bytes {w : World} {a : Option Addr} {n cap : Nat} {zs : List Int} (h : IsRow .u8 1 w a n cap zs) (hn : 0 < n) :
    ∃ (b off : Nat) (xs : List Int), a = some ⟨b, off, none⟩ ∧ n ≤ cap ∧ b < w.heap.size ∧ xs.length = n ∧ (∀ x ∈ xs, 0 ≤ x ∧ x ≤ 255) ∧ ∀ w', Below w.heap.size w w' → ∀ i, i < n → w'.cell? ⟨b, off + i, none⟩ = some (.int .u8 (xs.getD i 0)) := by
  obtain ⟨xs, hl, _, hb, hr⟩ := h.bytes
  obtain ⟨b, off, rfl, h1, h2, h3, h4, _⟩ := h.at hn
  refine ⟨b, off, xs, rfl, h1, h4, hl, hb, fun w' hw i hi => ?_⟩
  rcases hr w' hw with h0 | ⟨b', off', e, hc⟩
  · omega
  · cases e
    exact hc i (by omega)
theorem row_len {w : World} {a : Option Addr} {n cap : Nat} {zs : List Int} (h : IsRow .u8 1 w a n cap zs) : n ≤ 9223372036854775807 := by
  obtain ⟨xs, _, h, _⟩ := h.bytes
  omega
theorem blk_below {w w' : World} {g : Nat} {c : Array Value} {t : TypeId} (h : Blk w g c t) (hb : Below w.heap.size w w') : Blk w' g c t := by
  unfold Blk at *; rw [hb.block _ (Array.getElem?_eq_some_iff.1 h).1]; exact h
/-- a box is made -/
theorem box_made {w w1 : World} (h : Below w.heap.size w w1) (C : Array Value) (t : TypeId) : Below w.heap.size w (w1.alloc (.cells C t)) ∧ Blk (w1.alloc (.cells C t)) w1.heap.size C t := ⟨h.alloc h.size _, Blk.new _ _ _⟩

set_option maxRecDepth 100000 in
set_option maxHeartbeats 16000000 in
theorem cmdReads_walk (w : World) (hg : Laid w) (a0 : Option Addr) (len0 cap0 : Nat) (z0 : List Int) (r0 : IsRow .u8 1 w a0 len0 cap0 z0) (a1 : Option Addr) (len1 cap1 : Nat) (z1 : List Int) (r1 : IsRow .u8 1 w a1 len1 cap1 z1) :
    Calls Tryd.prog 9 #[.slice a0 len0 cap0, .slice a1 len1 cap1] w fun e w' => e = .returned (.bool true) ∧ Below w.heap.size w w' := by
  have HG := Lib.hid hg
  have hpos := hg.pos
  have R0 := Lib.hid r0
  have R1 := Lib.hid r1
  have hn0 := row_len r0
  have hn1 := row_len r1
  clear hg r0 r1
  go_enter Tryd.func9, Tryd.ntmps9
  go_wp2_with fail
  have Hst := Lib.hid (Below.refl w.heap.size w)
  by_cases hl0 : len0 = 64
  · subst hl0
    obtain ⟨b, off, xs, rfl, hcp, hbl, hxl, hxb, hcell⟩ := row_bytes R0.out (by omega)
    have HC := Lib.hid hcell
    clear hcell
    have D1 := Lib.hid (fun w' (h : Below w.heap.size w w') => cmd_decode b off cap0 xs w' hxl hxb (Nat.lt_of_lt_of_le hbl h.size) (HC.out w' h))
    have D2 := Lib.hid (fun w' (h : Below w.heap.size w w') => command_read b off cap0 xs w' hcp hxl hxb (Nat.lt_of_lt_of_le hbl h.size) (HC.out w' h))
    clear hxl hxb HC hcp R0
    unfold DecPost at D1
    generalize cmdAt xs 0 = x0 at *
    generalize cmdAt xs 1 = x1 at *
    generalize cmdAt xs 2 = x2 at *
    generalize cmdAt xs 3 = x3 at *
    generalize cmdAt xs 4 = x4 at *
    generalize cmdAt xs 5 = x5 at *
    by_cases hok : cmdOk xs 6
    · refine (D1.out w Hst.out).mono ?_
      rintro e wd4 ⟨hw, ⟨_, rfl⟩ | ⟨hx, _⟩⟩
      case inr => exact absurd hok hx
      unfold cmdV
      have hs4 : Below w.heap.size w wd4 := Hst.out.trans (hw.mono Hst.out.size)
      have Hbx := Lib.hid (box_made hs4 #[.int .i64 x0, .int .i64 x1, .int .i64 x2, .int .i64 x3, .int .i64 x4, .int .i64 x5] 63)
      clear hs4 hw
      go_wp2_with fail
      obtain ⟨bx4, hbx4⟩ : ∃ b, b = wd4.heap.size := ⟨_, rfl⟩
      rw [← hbx4] at Hbx ⊢
      clear hbx4
      generalize wd4.alloc _ = we4 at *
      refine (D2.out we4 Hbx.out.1).mono ?_
      rintro e wf4 ⟨⟨_, rfl⟩ | ⟨hx, _⟩, hw⟩
      case inr => exact absurd hok hx
      have Hok := Lib.hid hok
      clear hok D1 D2
      unfold cmdV
      have Hby := Lib.hid (show Below w.heap.size w wf4 from Hbx.out.1.trans (hw.mono Hbx.out.1.size))
      have Hbb := Lib.hid (blk_below Hbx.out.2 hw)
      have Hbz := Lib.hid (box_made Hby.out #[.int .i64 x0, .int .i64 x1, .int .i64 x2, .int .i64 x3, .int .i64 x4, .int .i64 x5] 63)
      have Hbc := Lib.hid (Hbb.out.alloc (.cells #[.int .i64 x0, .int .i64 x1, .int .i64 x2, .int .i64 x3, .int .i64 x4, .int .i64 x5] 63))
      have hlb : bx4 < wf4.heap.size := Hbb.out.lt
      clear hw Hbx Hby Hbb
      go_wp2_with fail
      obtain ⟨by4, hby4⟩ : ∃ b, b = wf4.heap.size := ⟨_, rfl⟩
      rw [← hby4] at Hbz hlb ⊢
      clear hby4
      generalize wf4.alloc _ = wg4 at *
      refine (error_nil 0 wg4).mono ?_
      rintro e w' ⟨rfl, rfl⟩
      have Hend := Lib.hid (show Below w.heap.size w wg4 from Hbz.out.1)
      have HA := Lib.hid Hbc.out
      have HBx := Lib.hid Hbz.out.2
      have p0 := HA.out.cell 0
      have q0 := HBx.out.cell 0
      have p1 := HA.out.cell 1
      have q1 := HBx.out.cell 1
      have p2 := HA.out.cell 2
      have q2 := HBx.out.cell 2
      have p3 := HA.out.cell 3
      have q3 := HBx.out.cell 3
      have p4 := HA.out.cell 4
      have q4 := HBx.out.cell 4
      have p5 := HA.out.cell 5
      have q5 := HBx.out.cell 5
      simp only [List.getElem?_toArray, List.getElem?_cons_zero, List.getElem?_cons_succ] at p0 q0 p1 q1 p2 q2 p3 q3 p4 q4 p5 q5
      clear Hbz Hbc HA HBx
      go_wp2_with fail
      clear p0 q0 p1 q1 p2 q2 p3 q3 p4 q4 p5 q5
      by_cases hl1 : len1 = 16
      · subst hl1
        obtain ⟨b, off, xs, rfl, hcp, hbl, hxl, hxb, hcell⟩ := row_bytes R1.out (by omega)
        have HC := Lib.hid hcell
        clear hcell
        obtain ⟨ph, hph⟩ : ∃ ph, (xs.getD 7 0 % 2 == 1) = ph := ⟨_, rfl⟩
        have hx7 : xs.getD 7 0 ∈ xs := by simp [List.getD, show 7 < xs.length by omega]
        have hph2 : (bits BinOp.and IntKind.u8 (xs.getD 7 0) 1 == 1) = ph := by rw [and_one _ (hxb _ hx7).1 (hxb _ hx7).2]; exact hph
        have D1 := Lib.hid (fun w' (h : Below w.heap.size w w') => cmd_decodeDone2 b off cap1 xs ph w' hxl hxb hph2 (Nat.lt_of_lt_of_le hbl h.size) (HC.out w' h))
        have D2 := Lib.hid (fun w' (h : Below w.heap.size w w') => done_read b off cap1 xs ph w' hxl hxb hph (Nat.lt_of_lt_of_le hbl h.size) (HC.out w' h))
        clear hxl hxb hph hph2 hx7 HC hcp R1
        generalize doneAt xs 0 = y0 at *
        generalize doneAt xs 1 = y1 at *
        generalize doneAt xs 2 = y2 at *
        generalize doneAt xs 3 = y3 at *
        refine (D1.out wg4 Hend.out).mono ?_
        rintro e wd6 ⟨rfl, hw⟩
        unfold doneV
        have hs6 : Below w.heap.size w wd6 := Hend.out.trans (hw.mono Hend.out.size)
        have Hbx := Lib.hid (box_made hs6 #[.int .i64 y0, .int .i64 y1, .int .i64 y2, .int .i64 y3, .bool ph] 65)
        clear hs6 hw
        go_wp2_with fail
        obtain ⟨bx6, hbx6⟩ : ∃ b, b = wd6.heap.size := ⟨_, rfl⟩
        rw [← hbx6] at Hbx ⊢
        clear hbx6
        generalize wd6.alloc _ = we6 at *
        refine (D2.out we6 Hbx.out.1).mono ?_
        rintro e wf6 ⟨rfl, hw⟩
        unfold doneV
        have Hby := Lib.hid (show Below w.heap.size w wf6 from Hbx.out.1.trans (hw.mono Hbx.out.1.size))
        have Hbb := Lib.hid (blk_below Hbx.out.2 hw)
        have Hbz := Lib.hid (box_made Hby.out #[.int .i64 y0, .int .i64 y1, .int .i64 y2, .int .i64 y3, .bool ph] 65)
        have Hbc := Lib.hid (Hbb.out.alloc (.cells #[.int .i64 y0, .int .i64 y1, .int .i64 y2, .int .i64 y3, .bool ph] 65))
        have hlb : bx6 < wf6.heap.size := Hbb.out.lt
        clear hw Hbx Hby Hbb
        go_wp2_with fail
        obtain ⟨by6, hby6⟩ : ∃ b, b = wf6.heap.size := ⟨_, rfl⟩
        rw [← hby6] at Hbz hlb ⊢
        clear hby6
        generalize wf6.alloc _ = wg6 at *
        refine (error_nil 0 wg6).mono ?_
        rintro e w' ⟨rfl, rfl⟩
        have Hend := Lib.hid (show Below w.heap.size w wg6 from Hbz.out.1)
        have HA := Lib.hid Hbc.out
        have HBx := Lib.hid Hbz.out.2
        have p0 := HA.out.cell 0
        have q0 := HBx.out.cell 0
        have p1 := HA.out.cell 1
        have q1 := HBx.out.cell 1
        have p2 := HA.out.cell 2
        have q2 := HBx.out.cell 2
        have p3 := HA.out.cell 3
        have q3 := HBx.out.cell 3
        have p4 := HA.out.cell 4
        have q4 := HBx.out.cell 4
        simp only [List.getElem?_toArray, List.getElem?_cons_zero, List.getElem?_cons_succ] at p0 q0 p1 q1 p2 q2 p3 q3 p4 q4
        clear Hbz Hbc HA HBx
        go_wp2
        go_ret
        exact ⟨rfl, Hend.out⟩
      · refine (cmd_decodeDone_bad a1 len1 cap1 wg4 hn1 hl1).mono ?_
        rintro e wd5 ⟨rfl, hw⟩
        unfold doneV cmdErr
        have hs5 : Below w.heap.size w wd5 := Hend.out.trans (hw.mono Hend.out.size)
        have Hbx := Lib.hid (box_made hs5 #[.int .i64 0, .int .i64 0, .int .i64 0, .int .i64 0, .bool false] 65)
        clear hs5 hw
        go_wp2_with fail
        obtain ⟨bx5, hbx5⟩ : ∃ b, b = wd5.heap.size := ⟨_, rfl⟩
        rw [← hbx5] at Hbx ⊢
        clear hbx5
        generalize wd5.alloc _ = we5 at *
        refine (done_read_bad a1 len1 cap1 we5 hn1 hl1).mono ?_
        rintro e wf5 ⟨rfl, hw⟩
        unfold doneV
        have Hby := Lib.hid (show Below w.heap.size w wf5 from Hbx.out.1.trans (hw.mono Hbx.out.1.size))
        have Hbb := Lib.hid (blk_below Hbx.out.2 hw)
        have Hbz := Lib.hid (box_made Hby.out #[.int .i64 0, .int .i64 0, .int .i64 0, .int .i64 0, .bool false] 65)
        have Hbc := Lib.hid (Hbb.out.alloc (.cells #[.int .i64 0, .int .i64 0, .int .i64 0, .int .i64 0, .bool false] 65))
        have hlb : bx5 < wf5.heap.size := Hbb.out.lt
        clear hw Hbx Hby Hbb
        go_wp2_with fail
        obtain ⟨by5, hby5⟩ : ∃ b, b = wf5.heap.size := ⟨_, rfl⟩
        rw [← hby5] at Hbz hlb ⊢
        clear hby5
        generalize wf5.alloc _ = wg5 at *
        have EH := Lib.hid (error_hit 2 2 wg5 (HG.out.below hpos Hbz.out.1))
        unfold errV at EH
        refine EH.out.mono ?_
        rintro e wh5 ⟨rfl, hw⟩
        have Hend := Lib.hid (show Below w.heap.size w wh5 from Hbz.out.1.trans (hw.mono Hbz.out.1.size))
        have HA := Lib.hid (blk_below Hbc.out hw)
        have HBx := Lib.hid (blk_below Hbz.out.2 hw)
        clear hw EH
        have p0 := HA.out.cell 0
        have q0 := HBx.out.cell 0
        have p1 := HA.out.cell 1
        have q1 := HBx.out.cell 1
        have p2 := HA.out.cell 2
        have q2 := HBx.out.cell 2
        have p3 := HA.out.cell 3
        have q3 := HBx.out.cell 3
        have p4 := HA.out.cell 4
        have q4 := HBx.out.cell 4
        simp only [List.getElem?_toArray, List.getElem?_cons_zero, List.getElem?_cons_succ] at p0 q0 p1 q1 p2 q2 p3 q3 p4 q4
        clear Hbz Hbc HA HBx
        go_wp2
        go_ret
        exact ⟨rfl, Hend.out⟩
    · refine (D1.out w Hst.out).mono ?_
      rintro e wd7 ⟨hw, ⟨hx, _⟩ | ⟨_, rfl⟩⟩
      case inl => exact absurd hx hok
      unfold zeroCmd cmdErr
      have hs7 : Below w.heap.size w wd7 := Hst.out.trans (hw.mono Hst.out.size)
      have Hbx := Lib.hid (box_made hs7 #[.int .i64 0, .int .i64 0, .int .i64 0, .int .i64 0, .int .i64 0, .int .i64 0] 63)
      clear hs7 hw
      go_wp2_with fail
      obtain ⟨bx7, hbx7⟩ : ∃ b, b = wd7.heap.size := ⟨_, rfl⟩
      rw [← hbx7] at Hbx ⊢
      clear hbx7
      generalize wd7.alloc _ = we7 at *
      refine (D2.out we7 Hbx.out.1).mono ?_
      rintro e wf7 ⟨⟨hx, _⟩ | ⟨_, rfl⟩, hw⟩
      case inl => exact absurd hx hok
      clear hok D1 D2
      unfold zeroCmd
      have Hby := Lib.hid (show Below w.heap.size w wf7 from Hbx.out.1.trans (hw.mono Hbx.out.1.size))
      have Hbb := Lib.hid (blk_below Hbx.out.2 hw)
      have Hbz := Lib.hid (box_made Hby.out #[.int .i64 0, .int .i64 0, .int .i64 0, .int .i64 0, .int .i64 0, .int .i64 0] 63)
      have Hbc := Lib.hid (Hbb.out.alloc (.cells #[.int .i64 0, .int .i64 0, .int .i64 0, .int .i64 0, .int .i64 0, .int .i64 0] 63))
      have hlb : bx7 < wf7.heap.size := Hbb.out.lt
      clear hw Hbx Hby Hbb
      go_wp2_with fail
      obtain ⟨by7, hby7⟩ : ∃ b, b = wf7.heap.size := ⟨_, rfl⟩
      rw [← hby7] at Hbz hlb ⊢
      clear hby7
      generalize wf7.alloc _ = wg7 at *
      have EH := Lib.hid (error_hit 1 1 wg7 (HG.out.below hpos Hbz.out.1))
      unfold errV at EH
      refine EH.out.mono ?_
      rintro e wh7 ⟨rfl, hw⟩
      have Hend := Lib.hid (show Below w.heap.size w wh7 from Hbz.out.1.trans (hw.mono Hbz.out.1.size))
      have HA := Lib.hid (blk_below Hbc.out hw)
      have HBx := Lib.hid (blk_below Hbz.out.2 hw)
      clear hw EH
      have p0 := HA.out.cell 0
      have q0 := HBx.out.cell 0
      have p1 := HA.out.cell 1
      have q1 := HBx.out.cell 1
      have p2 := HA.out.cell 2
      have q2 := HBx.out.cell 2
      have p3 := HA.out.cell 3
      have q3 := HBx.out.cell 3
      have p4 := HA.out.cell 4
      have q4 := HBx.out.cell 4
      have p5 := HA.out.cell 5
      have q5 := HBx.out.cell 5
      simp only [List.getElem?_toArray, List.getElem?_cons_zero, List.getElem?_cons_succ] at p0 q0 p1 q1 p2 q2 p3 q3 p4 q4 p5 q5
      clear Hbz Hbc HA HBx
      go_wp2_with fail
      clear p0 q0 p1 q1 p2 q2 p3 q3 p4 q4 p5 q5
      by_cases hl1 : len1 = 16
      · subst hl1
        obtain ⟨b, off, xs, rfl, hcp, hbl, hxl, hxb, hcell⟩ := row_bytes R1.out (by omega)
        have HC := Lib.hid hcell
        clear hcell
        obtain ⟨ph, hph⟩ : ∃ ph, (xs.getD 7 0 % 2 == 1) = ph := ⟨_, rfl⟩
        have hx7 : xs.getD 7 0 ∈ xs := by simp [List.getD, show 7 < xs.length by omega]
        have hph2 : (bits BinOp.and IntKind.u8 (xs.getD 7 0) 1 == 1) = ph := by rw [and_one _ (hxb _ hx7).1 (hxb _ hx7).2]; exact hph
        have D1 := Lib.hid (fun w' (h : Below w.heap.size w w') => cmd_decodeDone2 b off cap1 xs ph w' hxl hxb hph2 (Nat.lt_of_lt_of_le hbl h.size) (HC.out w' h))
        have D2 := Lib.hid (fun w' (h : Below w.heap.size w w') => done_read b off cap1 xs ph w' hxl hxb hph (Nat.lt_of_lt_of_le hbl h.size) (HC.out w' h))
        clear hxl hxb hph hph2 hx7 HC hcp R1
        generalize doneAt xs 0 = y0 at *
        generalize doneAt xs 1 = y1 at *
        generalize doneAt xs 2 = y2 at *
        generalize doneAt xs 3 = y3 at *
        refine (D1.out wh7 Hend.out).mono ?_
        rintro e wd9 ⟨rfl, hw⟩
        unfold doneV
        have hs9 : Below w.heap.size w wd9 := Hend.out.trans (hw.mono Hend.out.size)
        have Hbx := Lib.hid (box_made hs9 #[.int .i64 y0, .int .i64 y1, .int .i64 y2, .int .i64 y3, .bool ph] 65)
        clear hs9 hw
        go_wp2_with fail
        obtain ⟨bx9, hbx9⟩ : ∃ b, b = wd9.heap.size := ⟨_, rfl⟩
        rw [← hbx9] at Hbx ⊢
        clear hbx9
        generalize wd9.alloc _ = we9 at *
        refine (D2.out we9 Hbx.out.1).mono ?_
        rintro e wf9 ⟨rfl, hw⟩
        unfold doneV
        have Hby := Lib.hid (show Below w.heap.size w wf9 from Hbx.out.1.trans (hw.mono Hbx.out.1.size))
        have Hbb := Lib.hid (blk_below Hbx.out.2 hw)
        have Hbz := Lib.hid (box_made Hby.out #[.int .i64 y0, .int .i64 y1, .int .i64 y2, .int .i64 y3, .bool ph] 65)
        have Hbc := Lib.hid (Hbb.out.alloc (.cells #[.int .i64 y0, .int .i64 y1, .int .i64 y2, .int .i64 y3, .bool ph] 65))
        have hlb : bx9 < wf9.heap.size := Hbb.out.lt
        clear hw Hbx Hby Hbb
        go_wp2_with fail
        obtain ⟨by9, hby9⟩ : ∃ b, b = wf9.heap.size := ⟨_, rfl⟩
        rw [← hby9] at Hbz hlb ⊢
        clear hby9
        generalize wf9.alloc _ = wg9 at *
        refine (error_nil 0 wg9).mono ?_
        rintro e w' ⟨rfl, rfl⟩
        have Hend := Lib.hid (show Below w.heap.size w wg9 from Hbz.out.1)
        have HA := Lib.hid Hbc.out
        have HBx := Lib.hid Hbz.out.2
        have p0 := HA.out.cell 0
        have q0 := HBx.out.cell 0
        have p1 := HA.out.cell 1
        have q1 := HBx.out.cell 1
        have p2 := HA.out.cell 2
        have q2 := HBx.out.cell 2
        have p3 := HA.out.cell 3
        have q3 := HBx.out.cell 3
        have p4 := HA.out.cell 4
        have q4 := HBx.out.cell 4
        simp only [List.getElem?_toArray, List.getElem?_cons_zero, List.getElem?_cons_succ] at p0 q0 p1 q1 p2 q2 p3 q3 p4 q4
        clear Hbz Hbc HA HBx
        go_wp2
        go_ret
        exact ⟨rfl, Hend.out⟩
      · refine (cmd_decodeDone_bad a1 len1 cap1 wh7 hn1 hl1).mono ?_
        rintro e wd8 ⟨rfl, hw⟩
        unfold doneV cmdErr
        have hs8 : Below w.heap.size w wd8 := Hend.out.trans (hw.mono Hend.out.size)
        have Hbx := Lib.hid (box_made hs8 #[.int .i64 0, .int .i64 0, .int .i64 0, .int .i64 0, .bool false] 65)
        clear hs8 hw
        go_wp2_with fail
        obtain ⟨bx8, hbx8⟩ : ∃ b, b = wd8.heap.size := ⟨_, rfl⟩
        rw [← hbx8] at Hbx ⊢
        clear hbx8
        generalize wd8.alloc _ = we8 at *
        refine (done_read_bad a1 len1 cap1 we8 hn1 hl1).mono ?_
        rintro e wf8 ⟨rfl, hw⟩
        unfold doneV
        have Hby := Lib.hid (show Below w.heap.size w wf8 from Hbx.out.1.trans (hw.mono Hbx.out.1.size))
        have Hbb := Lib.hid (blk_below Hbx.out.2 hw)
        have Hbz := Lib.hid (box_made Hby.out #[.int .i64 0, .int .i64 0, .int .i64 0, .int .i64 0, .bool false] 65)
        have Hbc := Lib.hid (Hbb.out.alloc (.cells #[.int .i64 0, .int .i64 0, .int .i64 0, .int .i64 0, .bool false] 65))
        have hlb : bx8 < wf8.heap.size := Hbb.out.lt
        clear hw Hbx Hby Hbb
        go_wp2_with fail
        obtain ⟨by8, hby8⟩ : ∃ b, b = wf8.heap.size := ⟨_, rfl⟩
        rw [← hby8] at Hbz hlb ⊢
        clear hby8
        generalize wf8.alloc _ = wg8 at *
        have EH := Lib.hid (error_hit 2 2 wg8 (HG.out.below hpos Hbz.out.1))
        unfold errV at EH
        refine EH.out.mono ?_
        rintro e wh8 ⟨rfl, hw⟩
        have Hend := Lib.hid (show Below w.heap.size w wh8 from Hbz.out.1.trans (hw.mono Hbz.out.1.size))
        have HA := Lib.hid (blk_below Hbc.out hw)
        have HBx := Lib.hid (blk_below Hbz.out.2 hw)
        clear hw EH
        have p0 := HA.out.cell 0
        have q0 := HBx.out.cell 0
        have p1 := HA.out.cell 1
        have q1 := HBx.out.cell 1
        have p2 := HA.out.cell 2
        have q2 := HBx.out.cell 2
        have p3 := HA.out.cell 3
        have q3 := HBx.out.cell 3
        have p4 := HA.out.cell 4
        have q4 := HBx.out.cell 4
        simp only [List.getElem?_toArray, List.getElem?_cons_zero, List.getElem?_cons_succ] at p0 q0 p1 q1 p2 q2 p3 q3 p4 q4
        clear Hbz Hbc HA HBx
        go_wp2
        go_ret
        exact ⟨rfl, Hend.out⟩
  · refine (cmd_decode_bad a0 len0 cap0 w hn0 hl0).mono ?_
    rintro e wd1 ⟨rfl, hw⟩
    unfold zeroCmd cmdErr
    have hs1 : Below w.heap.size w wd1 := Hst.out.trans (hw.mono Hst.out.size)
    have Hbx := Lib.hid (box_made hs1 #[.int .i64 0, .int .i64 0, .int .i64 0, .int .i64 0, .int .i64 0, .int .i64 0] 63)
    clear hs1 hw
    go_wp2_with fail
    obtain ⟨bx1, hbx1⟩ : ∃ b, b = wd1.heap.size := ⟨_, rfl⟩
    rw [← hbx1] at Hbx ⊢
    clear hbx1
    generalize wd1.alloc _ = we1 at *
    refine (command_read_bad a0 len0 cap0 we1 hn0 hl0).mono ?_
    rintro e wf1 ⟨rfl, hw⟩
    unfold zeroCmd
    have Hby := Lib.hid (show Below w.heap.size w wf1 from Hbx.out.1.trans (hw.mono Hbx.out.1.size))
    have Hbb := Lib.hid (blk_below Hbx.out.2 hw)
    have Hbz := Lib.hid (box_made Hby.out #[.int .i64 0, .int .i64 0, .int .i64 0, .int .i64 0, .int .i64 0, .int .i64 0] 63)
    have Hbc := Lib.hid (Hbb.out.alloc (.cells #[.int .i64 0, .int .i64 0, .int .i64 0, .int .i64 0, .int .i64 0, .int .i64 0] 63))
    have hlb : bx1 < wf1.heap.size := Hbb.out.lt
    clear hw Hbx Hby Hbb
    go_wp2_with fail
    obtain ⟨by1, hby1⟩ : ∃ b, b = wf1.heap.size := ⟨_, rfl⟩
    rw [← hby1] at Hbz hlb ⊢
    clear hby1
    generalize wf1.alloc _ = wg1 at *
    have EH := Lib.hid (error_hit 2 2 wg1 (HG.out.below hpos Hbz.out.1))
    unfold errV at EH
    refine EH.out.mono ?_
    rintro e wh1 ⟨rfl, hw⟩
    have Hend := Lib.hid (show Below w.heap.size w wh1 from Hbz.out.1.trans (hw.mono Hbz.out.1.size))
    have HA := Lib.hid (blk_below Hbc.out hw)
    have HBx := Lib.hid (blk_below Hbz.out.2 hw)
    clear hw EH
    have p0 := HA.out.cell 0
    have q0 := HBx.out.cell 0
    have p1 := HA.out.cell 1
    have q1 := HBx.out.cell 1
    have p2 := HA.out.cell 2
    have q2 := HBx.out.cell 2
    have p3 := HA.out.cell 3
    have q3 := HBx.out.cell 3
    have p4 := HA.out.cell 4
    have q4 := HBx.out.cell 4
    have p5 := HA.out.cell 5
    have q5 := HBx.out.cell 5
    simp only [List.getElem?_toArray, List.getElem?_cons_zero, List.getElem?_cons_succ] at p0 q0 p1 q1 p2 q2 p3 q3 p4 q4 p5 q5
    clear Hbz Hbc HA HBx
    go_wp2_with fail
    clear p0 q0 p1 q1 p2 q2 p3 q3 p4 q4 p5 q5
    by_cases hl1 : len1 = 16
    · subst hl1
      obtain ⟨b, off, xs, rfl, hcp, hbl, hxl, hxb, hcell⟩ := row_bytes R1.out (by omega)
      have HC := Lib.hid hcell
      clear hcell
      obtain ⟨ph, hph⟩ : ∃ ph, (xs.getD 7 0 % 2 == 1) = ph := ⟨_, rfl⟩
      have hx7 : xs.getD 7 0 ∈ xs := by simp [List.getD, show 7 < xs.length by omega]
      have hph2 : (bits BinOp.and IntKind.u8 (xs.getD 7 0) 1 == 1) = ph := by rw [and_one _ (hxb _ hx7).1 (hxb _ hx7).2]; exact hph
      have D1 := Lib.hid (fun w' (h : Below w.heap.size w w') => cmd_decodeDone2 b off cap1 xs ph w' hxl hxb hph2 (Nat.lt_of_lt_of_le hbl h.size) (HC.out w' h))
      have D2 := Lib.hid (fun w' (h : Below w.heap.size w w') => done_read b off cap1 xs ph w' hxl hxb hph (Nat.lt_of_lt_of_le hbl h.size) (HC.out w' h))
      clear hxl hxb hph hph2 hx7 HC hcp R1
      generalize doneAt xs 0 = y0 at *
      generalize doneAt xs 1 = y1 at *
      generalize doneAt xs 2 = y2 at *
      generalize doneAt xs 3 = y3 at *
      refine (D1.out wh1 Hend.out).mono ?_
      rintro e wd3 ⟨rfl, hw⟩
      unfold doneV
      have hs3 : Below w.heap.size w wd3 := Hend.out.trans (hw.mono Hend.out.size)
      have Hbx := Lib.hid (box_made hs3 #[.int .i64 y0, .int .i64 y1, .int .i64 y2, .int .i64 y3, .bool ph] 65)
      clear hs3 hw
      go_wp2_with fail
      obtain ⟨bx3, hbx3⟩ : ∃ b, b = wd3.heap.size := ⟨_, rfl⟩
      rw [← hbx3] at Hbx ⊢
      clear hbx3
      generalize wd3.alloc _ = we3 at *
      refine (D2.out we3 Hbx.out.1).mono ?_
      rintro e wf3 ⟨rfl, hw⟩
      unfold doneV
      have Hby := Lib.hid (show Below w.heap.size w wf3 from Hbx.out.1.trans (hw.mono Hbx.out.1.size))
      have Hbb := Lib.hid (blk_below Hbx.out.2 hw)
      have Hbz := Lib.hid (box_made Hby.out #[.int .i64 y0, .int .i64 y1, .int .i64 y2, .int .i64 y3, .bool ph] 65)
      have Hbc := Lib.hid (Hbb.out.alloc (.cells #[.int .i64 y0, .int .i64 y1, .int .i64 y2, .int .i64 y3, .bool ph] 65))
      have hlb : bx3 < wf3.heap.size := Hbb.out.lt
      clear hw Hbx Hby Hbb
      go_wp2_with fail
      obtain ⟨by3, hby3⟩ : ∃ b, b = wf3.heap.size := ⟨_, rfl⟩
      rw [← hby3] at Hbz hlb ⊢
      clear hby3
      generalize wf3.alloc _ = wg3 at *
      refine (error_nil 0 wg3).mono ?_
      rintro e w' ⟨rfl, rfl⟩
      have Hend := Lib.hid (show Below w.heap.size w wg3 from Hbz.out.1)
      have HA := Lib.hid Hbc.out
      have HBx := Lib.hid Hbz.out.2
      have p0 := HA.out.cell 0
      have q0 := HBx.out.cell 0
      have p1 := HA.out.cell 1
      have q1 := HBx.out.cell 1
      have p2 := HA.out.cell 2
      have q2 := HBx.out.cell 2
      have p3 := HA.out.cell 3
      have q3 := HBx.out.cell 3
      have p4 := HA.out.cell 4
      have q4 := HBx.out.cell 4
      simp only [List.getElem?_toArray, List.getElem?_cons_zero, List.getElem?_cons_succ] at p0 q0 p1 q1 p2 q2 p3 q3 p4 q4
      clear Hbz Hbc HA HBx
      go_wp2
      go_ret
      exact ⟨rfl, Hend.out⟩
    · refine (cmd_decodeDone_bad a1 len1 cap1 wh1 hn1 hl1).mono ?_
      rintro e wd2 ⟨rfl, hw⟩
      unfold doneV cmdErr
      have hs2 : Below w.heap.size w wd2 := Hend.out.trans (hw.mono Hend.out.size)
      have Hbx := Lib.hid (box_made hs2 #[.int .i64 0, .int .i64 0, .int .i64 0, .int .i64 0, .bool false] 65)
      clear hs2 hw
      go_wp2_with fail
      obtain ⟨bx2, hbx2⟩ : ∃ b, b = wd2.heap.size := ⟨_, rfl⟩
      rw [← hbx2] at Hbx ⊢
      clear hbx2
      generalize wd2.alloc _ = we2 at *
      refine (done_read_bad a1 len1 cap1 we2 hn1 hl1).mono ?_
      rintro e wf2 ⟨rfl, hw⟩
      unfold doneV
      have Hby := Lib.hid (show Below w.heap.size w wf2 from Hbx.out.1.trans (hw.mono Hbx.out.1.size))
      have Hbb := Lib.hid (blk_below Hbx.out.2 hw)
      have Hbz := Lib.hid (box_made Hby.out #[.int .i64 0, .int .i64 0, .int .i64 0, .int .i64 0, .bool false] 65)
      have Hbc := Lib.hid (Hbb.out.alloc (.cells #[.int .i64 0, .int .i64 0, .int .i64 0, .int .i64 0, .bool false] 65))
      have hlb : bx2 < wf2.heap.size := Hbb.out.lt
      clear hw Hbx Hby Hbb
      go_wp2_with fail
      obtain ⟨by2, hby2⟩ : ∃ b, b = wf2.heap.size := ⟨_, rfl⟩
      rw [← hby2] at Hbz hlb ⊢
      clear hby2
      generalize wf2.alloc _ = wg2 at *
      have EH := Lib.hid (error_hit 2 2 wg2 (HG.out.below hpos Hbz.out.1))
      unfold errV at EH
      refine EH.out.mono ?_
      rintro e wh2 ⟨rfl, hw⟩
      have Hend := Lib.hid (show Below w.heap.size w wh2 from Hbz.out.1.trans (hw.mono Hbz.out.1.size))
      have HA := Lib.hid (blk_below Hbc.out hw)
      have HBx := Lib.hid (blk_below Hbz.out.2 hw)
      clear hw EH
      have p0 := HA.out.cell 0
      have q0 := HBx.out.cell 0
      have p1 := HA.out.cell 1
      have q1 := HBx.out.cell 1
      have p2 := HA.out.cell 2
      have q2 := HBx.out.cell 2
      have p3 := HA.out.cell 3
      have q3 := HBx.out.cell 3
      have p4 := HA.out.cell 4
      have q4 := HBx.out.cell 4
      simp only [List.getElem?_toArray, List.getElem?_cons_zero, List.getElem?_cons_succ] at p0 q0 p1 q1 p2 q2 p3 q3 p4 q4
      clear Hbz Hbc HA HBx
      go_wp2
      go_ret
      exact ⟨rfl, Hend.out⟩
end Go.Proofs.YtkehhfgoikbciaaDoor
