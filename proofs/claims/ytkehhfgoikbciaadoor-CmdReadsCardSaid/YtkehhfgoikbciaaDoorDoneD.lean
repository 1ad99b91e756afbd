/- cmd.DecodeDone. -/
import Derived.Test.YtkehhfgoikbciaaDoorDoneE
import Derived.Test.YtkehhfgoikbciaaDoorCmdD
import Derived.Deep.RegionHeld3
import Derived.Deep.CutRange
namespace Go.Proofs.YtkehhfgoikbciaaDoor
open Go.RowKit Go.WideShapes
set_option linter.unusedVariables false

def doneAt (bs : List Int) (k : Nat) : Int := leNum ((bs.drop (doneFld k).p).take (doneFld k).L)
/-- a completion whose first k numbers are read -/
def doneUpto (X : Nat → Int) (k : Nat) : Array Value := #[.int .i64 (uptoN X k 0), .int .i64 (uptoN X k 1), .int .i64 (uptoN X k 2), .int .i64 (uptoN X k 3), .bool false]
theorem doneUpto_set (X : Nat → Int) : ∀ k, k < 4 → (doneUpto X k).setIfInBounds k (.int .i64 (X k)) = doneUpto X (k + 1) :=
  four (P := fun k => (doneUpto X k).setIfInBounds k (.int .i64 (X k)) = doneUpto X (k + 1)) (by simp [doneUpto, uptoN]) (by simp [doneUpto, uptoN]) (by simp [doneUpto, uptoN]) (by simp [doneUpto, uptoN])
theorem done_index (b : Nat) : ∀ k, k < 4 → ∀ w, (Instr.index 166 (.agg (doneCells b)) (.int .i64 (k : Nat))).run Tryd.prog w = .ok (.agg #[.int .i64 ((doneFld k).p : Nat), .int .i64 ((doneFld k).L : Nat), .pointer (some ⟨b, (doneFld k).off, none⟩)]) w :=
  four (P := fun k => ∀ w, (Instr.index 166 (.agg (doneCells b)) (.int .i64 (k : Nat))).run Tryd.prog w = .ok (.agg #[.int .i64 ((doneFld k).p : Nat), .int .i64 ((doneFld k).L : Nat), .pointer (some ⟨b, (doneFld k).off, none⟩)]) w)
    (fun _ => by kernel_rfl) (fun _ => by kernel_rfl) (fun _ => by kernel_rfl) (fun _ => by kernel_rfl)
def zero5 : Array Value := #[.int .i64 0, .int .i64 0, .int .i64 0, .int .i64 0, .bool false]

set_option maxRecDepth 100000 in
set_option maxHeartbeats 4000000 in
theorem cmd_decodeDone (bb c : Nat) (bs : List Int) (ph : Bool) (w : World) (hbs : bs.length = 16) (hbyte : ∀ x ∈ bs, 0 ≤ x ∧ x ≤ 255) (h7 : bs.getD 7 0 = if ph then 1 else 0) (hbl : bb < w.heap.size)
    (hc : ∀ i, i < 16 → w.cell? ⟨bb, 0 + i, none⟩ = some (.int .u8 (bs.getD i 0))) :
    Calls Tryd.prog 45 #[.slice (some ⟨bb, 0, none⟩) 16 c] w fun e w' => e = .returned (.tuple #[doneV (doneAt bs 0) (doneAt bs 1) (doneAt bs 2) (doneAt bs 3) ph, .nilIface]) ∧ Below w.heap.size w w' := by
  have Hc := Lib.hid hc
  have Hbyte := Lib.hid hbyte
  have H7 := Lib.hid h7
  clear hc hbyte h7
  go_enter Tryd.func45, Tryd.ntmps45
  go_wp2_with fail
  refine (cmd_completion (w.heap.size + 1) _ (by simp)).mono ?_
  rintro e w1 ⟨rfl, hw1⟩
  have hw1' : Below ((w.alloc (.cells zero5 65)).alloc (.cells zero5 65)).heap.size ((w.alloc (.cells zero5 65)).alloc (.cells zero5 65)) w1 := hw1
  have hK1 : Keep (fun _ => False) ((w.alloc (.cells zero5 65)).alloc (.cells zero5 65)) w1 := Keep.ofBelow hw1' (fun k h1 h2 => absurd h1 (by omega))
  have e0 : doneUpto (doneAt bs) 0 = zero5 := by simp [doneUpto, uptoN, zero5]
  have hr1 : Blk w1 w.heap.size (doneUpto (doneAt bs) 0) 65 := by rw [e0]; exact hK1.blk ((Blk.new _ _ _).alloc _) (fun h => h)
  have hc1 : Blk w1 (w.heap.size + 1) (doneUpto (doneAt bs) 0) 65 := by
    rw [e0]
    have := hK1.blk (Blk.new (w.alloc (.cells zero5 65)) zero5 65) (fun h => h)
    simpa using this
  have hbe1 : Below w.heap.size w w1 := (((Below.refl _ _).alloc (Nat.le_refl _) _).alloc (by simp) _).trans (hw1'.mono (by simp; omega))
  clear hw1' e0
  have Hr1 := Lib.hid hr1
  have Hc1 := Lib.hid hc1
  have Hbe1 := Lib.hid hbe1
  clear hw1 hK1 hr1 hc1 hbe1
  obtain ⟨cb, hcb⟩ : ∃ cb, cb = w.heap.size + 1 := ⟨_, rfl⟩
  have hcbl : w.heap.size < cb := by omega
  rw [← hcb] at Hc1 ⊢
  clear hcb
  go_wp2_with fail
  go_loopw [13] (fun i wr => ∃ k : Nat, k ≤ 4 ∧ i = .int .i64 k ∧ Blk wr w.heap.size (doneUpto (doneAt bs) 0) 65 ∧ Blk wr cb (doneUpto (doneAt bs) k) 65 ∧ Below w.heap.size w wr) (fun i _ => 4 - (intOf i).toNat)
  case atStart => exact ⟨0, by omega, rfl, Hr1.out, Hc1.out, Hbe1.out⟩
  case round =>
    obtain ⟨k, hk, rfl, hr, hcmd, hbe⟩ := hrel
    by_cases hlt : k < 4
    · have hidx := done_index cb k hlt
      have hF := four (P := fun k => (doneFld k).p + (doneFld k).L ≤ 16 ∧ ((doneFld k).L = 1 ∨ (doneFld k).L = 2) ∧ (doneFld k).off = k) (by simp [doneFld]) (by simp [doneFld]) (by simp [doneFld]) (by simp [doneFld]) k hlt
      have hX : doneAt bs k = leNum ((bs.drop (doneFld k).p).take (doneFld k).L) := rfl
      have hset := doneUpto_set (doneAt bs) k hlt
      obtain ⟨hF1, hF2, hF3⟩ := hF
      rw [hF3] at hidx
      have hb0 := leNum_bd ((bs.drop (doneFld k).p).take (doneFld k).L) (fun x hx => Hbyte.out x (List.mem_of_mem_drop (List.mem_of_mem_take hx)))
      have hl0 : ((bs.drop (doneFld k).p).take (doneFld k).L).length = (doneFld k).L := by simp; omega
      rw [hl0, ← hX] at hb0
      have hb1 : doneAt bs k < 65536 := by
        rcases hF2 with h | h <;> rw [h] at hb0 <;> (have := hb0.2; simp at this; omega)
      have hb0' := hb0.1
      clear hb0 hl0
      generalize (doneFld k).p = pp at *
      generalize (doneFld k).L = LL at *
      have HX := Lib.hid hX
      have Hset := Lib.hid hset
      have fcb := hcmd.free k
      have ccb : ∃ v0, wr.cell? ⟨cb, k, none⟩ = some v0 := by
        rw [hcmd.cell]
        exact ⟨_, Array.getElem?_eq_getElem (by simp [doneUpto]; omega)⟩
      obtain ⟨v0, ccb⟩ := ccb
      have clt := hcmd.lt
      have hsz := hbe.size
      have Hr := Lib.hid hr
      have Hcmd := Lib.hid hcmd
      have Hbe := Lib.hid hbe
      clear hX hset hr hcmd hbe
      generalize doneAt bs k = xk at *
      go_upto_region 7 with fail
      obtain ⟨W, hW⟩ : ∃ W, W = wr.alloc (.cells #[.int .i64 (pp : Int), .int .i64 (LL : Int), .pointer (some ⟨cb, k, none⟩)] 159) := ⟨_, rfl⟩
      rw [← hW]
      have hB1 : Blk W wr.heap.size #[.int .i64 (pp : Int), .int .i64 (LL : Int), .pointer (some ⟨cb, k, none⟩)] 159 := by subst hW; exact Blk.new _ _ _
      have hB2 : Blk W w.heap.size (doneUpto (doneAt bs) 0) 65 := by subst hW; exact Hr.out.alloc _
      have hB3 : Blk W cb (doneUpto (doneAt bs) k) 65 := by subst hW; exact Hcmd.out.alloc _
      have hB4 : Below w.heap.size w W := by subst hW; exact Hbe.out.alloc hsz _
      have ccW : W.cell? ⟨cb, k, none⟩ = some v0 := by subst hW; rw [World.cell?_alloc_past _ _ _ (by omega)]; exact ccb
      have e0 : W.cell? ⟨wr.heap.size, 0, none⟩ = some (.int .i64 (pp : Int)) := hB1.cell 0
      have e1 : W.cell? ⟨wr.heap.size, 1, none⟩ = some (.int .i64 (LL : Int)) := hB1.cell 1
      have e2 : W.cell? ⟨wr.heap.size, 2, none⟩ = some (.pointer (some ⟨cb, k, none⟩)) := hB1.cell 2
      have fcW := hB3.free k
      have cltW := hB3.lt
      have pltW := hB1.lt
      have hszW := hB4.size
      have hne : cb ≠ wr.heap.size := by omega
      have hget : Calls Tryd.prog 83 #[.agg #[.int .i64 (pp : Int), .int .i64 (LL : Int)], .slice (some ⟨bb, 0, none⟩) 16 c] W.drew fun e w' => e = .returned (.int .u64 xk) ∧ W.drew.alloc (.cells #[.int .i64 (pp : Int), .int .i64 (LL : Int)] 156) = w' := by
        have := cmd_get pp LL bb 0 16 c bs W.drew (by omega) hF1 (by omega) hbs Hbyte.out (Nat.lt_of_lt_of_le hbl hszW) (fun i hi => by rw [World.cell?_drew, hB4.cell (p := ⟨bb, 0 + i, none⟩) hbl]; exact Hc.out i hi)
        rwa [← HX.out] at this
      have Hget := Lib.hid hget
      have HB2 := Lib.hid hB2
      have HB3 := Lib.hid hB3
      have HB4 := Lib.hid hB4
      clear hW hB1 hB2 hB3 hB4 ccb fcb hget
      go_region_held3 (fun w' => w'.cell? ⟨wr.heap.size, 0, none⟩ = some (.int .i64 (pp : Int)) ∧ w'.cell? ⟨wr.heap.size, 1, none⟩ = some (.int .i64 (LL : Int)) ∧ w'.cell? ⟨wr.heap.size, 2, none⟩ = some (.pointer (some ⟨cb, k, none⟩))) (go_keep)
        (first | (go_at_call 83; refine Hget.out.mono ?_; rintro e w' ⟨rfl, rfl⟩))
      go_wp2_with fail
      go_roundw
      case rel =>
        have hr := HB2.out
        have hcmd := HB3.out
        have hbe := HB4.out
        refine ⟨k + 1, by omega, by go_num, ?_, Blk.of (c := (doneUpto (doneAt bs) k).setIfInBounds k (.int .i64 xk)) ?_ Hset.out, ?_⟩
        · repeat (first | with_reducible exact hr | with_reducible apply Blk.alloc | with_reducible apply Blk.drew | (with_reducible refine Blk.setOther ?_ (by simp; omega) _))
        · repeat (first | with_reducible exact hcmd | with_reducible apply Blk.alloc | with_reducible apply Blk.drew | with_reducible apply Blk.set)
        · repeat (first | with_reducible exact hbe | with_reducible apply Below.drew | (with_reducible refine Below.alloc ?_ (by simp; omega) _) | (with_reducible refine Below.setCell ?_ (by simp; omega) _))
      case measure => simp [intOf]; omega
    · obtain rfl : k = 4 := by omega
      have e6 : doneUpto (doneAt bs) 4 = #[.int .i64 (doneAt bs 0), .int .i64 (doneAt bs 1), .int .i64 (doneAt bs 2), .int .i64 (doneAt bs 3), .bool false] := by simp [doneUpto, uptoN]
      rw [e6] at hcmd
      have Hr := Lib.hid hr
      have Hcmd := Lib.hid hcmd
      have Hbe := Lib.hid hbe
      clear hr hcmd hbe e6
      generalize hy0 : doneAt bs 0 = y0 at *
      generalize hy1 : doneAt bs 1 = y1 at *
      generalize hy2 : doneAt bs 2 = y2 at *
      generalize hy3 : doneAt bs 3 = y3 at *
      have c7 : wr.cell? ⟨bb, 7, none⟩ = some (.int .u8 (if ph then 1 else 0)) := by
        rw [← H7.out, Hbe.out.cell (p := ⟨bb, 7, none⟩) hbl]
        have := Hc.out 7 (by omega)
        simpa using this
      have c4 : wr.cell? ⟨cb, 4, none⟩ = some (.bool false) := Hcmd.out.cell 4
      have f4 := Hcmd.out.free 4
      have hset : Blk (wr.setCell ⟨cb, 4, none⟩ (.bool ph)) cb #[.int .i64 y0, .int .i64 y1, .int .i64 y2, .int .i64 y3, .bool ph] 65 := (Hcmd.out.set 4 (.bool ph)).of (by simp)
      have hrr : Blk (wr.setCell ⟨cb, 4, none⟩ (.bool ph)) w.heap.size (doneUpto (doneAt bs) 0) 65 := Hr.out.setOther (by simp; omega) _
      have hbe : Below w.heap.size w (wr.setCell ⟨cb, 4, none⟩ (.bool ph)) := Hbe.out.setCell (by simp; omega) _
      have Y0 := Lib.hid hy0
      have Y1 := Lib.hid hy1
      have Y2 := Lib.hid hy2
      have Y3 := Lib.hid hy3
      have Hset := Lib.hid hset
      have Hrr := Lib.hid hrr
      have Hbee := Lib.hid hbe
      have g0 := hset.cell 0
      have g1 := hset.cell 1
      have g2 := hset.cell 2
      have g3 := hset.cell 3
      have g4 := hset.cell 4
      simp only [List.getElem?_toArray, List.getElem?_cons_zero, List.getElem?_cons_succ] at g0 g1 g2 g3 g4
      clear hy0 hy1 hy2 hy3 hset hrr hbe
      cases ph
      all_goals simp only [Bool.false_eq_true, if_false, if_true] at c7
      · have hbit : (bits BinOp.and IntKind.u8 0 1 == 1) = false := by kernel_rfl
        go_wp2_with (with_reducible refine wpList_stop (.load 65 (.tmp 4)) rfl ?_)
        refine .inr ?_
        clear hbit c7 c4 f4 Hr Hcmd Hbe
        generalize wr.setCell ⟨cb, 4, none⟩ (.bool false) = W2 at *
        go_wp2_with (with_reducible refine wpList_stop (.store 65 (.tmp 2) (.tmp 31)) rfl ?_)
        refine .inr ?_
        refine wpList_store_row rfl 65 (.tmp 2) (.tmp 31) rfl w.heap.size #[.int .i64 y0, .int .i64 y1, .int .i64 y2, .int .i64 y3, .bool false] rfl rfl 65 (doneUpto (doneAt bs) 0) Hrr.out (by kernel_rfl) rfl (by simp [Value.oneCell']) ?_
        have hrow := setRow_heap W2 w.heap.size (doneUpto (doneAt bs) 0) #[.int .i64 y0, .int .i64 y1, .int .i64 y2, .int .i64 y3, .bool false] 65 (0, 0) Hrr.out
        have hbe2 := below_setRow Hbee.out (Nat.le_refl w.heap.size) #[.int .i64 y0, .int .i64 y1, .int .i64 y2, .int .i64 y3, .bool false]
        clear g0 g1 g2 g3 g4 Hset Hrr Hbee
        generalize W2.setRow w.heap.size #[.int .i64 y0, .int .i64 y1, .int .i64 y2, .int .i64 y3, .bool false] = W3 at hrow hbe2 ⊢
        have hrow' : Blk W3 w.heap.size #[.int .i64 y0, .int .i64 y1, .int .i64 y2, .int .i64 y3, .bool false] 65 := hrow
        have q0 := hrow'.cell 0
        have q1 := hrow'.cell 1
        have q2 := hrow'.cell 2
        have q3 := hrow'.cell 3
        have q4 := hrow'.cell 4
        simp only [List.getElem?_toArray, List.getElem?_cons_zero, List.getElem?_cons_succ] at q0 q1 q2 q3 q4
        have Hbe2 := Lib.hid hbe2
        clear hrow hrow' hbe2
        go_wp2
        exact bodyPost_ret (v := .tuple #[doneV y0 y1 y2 y3 false, .nilIface]) (by simp [results, Tryd.results45, go_sem, doneV, q0, q1, q2, q3, q4]) rfl ⟨by rw [Y0.out, Y1.out, Y2.out, Y3.out], Hbe2.out⟩
      · have hbit : (bits BinOp.and IntKind.u8 1 1 == 1) = true := by kernel_rfl
        go_wp2_with (with_reducible refine wpList_stop (.load 65 (.tmp 4)) rfl ?_)
        refine .inr ?_
        clear hbit c7 c4 f4 Hr Hcmd Hbe
        generalize wr.setCell ⟨cb, 4, none⟩ (.bool true) = W2 at *
        go_wp2_with (with_reducible refine wpList_stop (.store 65 (.tmp 2) (.tmp 31)) rfl ?_)
        refine .inr ?_
        refine wpList_store_row rfl 65 (.tmp 2) (.tmp 31) rfl w.heap.size #[.int .i64 y0, .int .i64 y1, .int .i64 y2, .int .i64 y3, .bool true] rfl rfl 65 (doneUpto (doneAt bs) 0) Hrr.out (by kernel_rfl) rfl (by simp [Value.oneCell']) ?_
        have hrow := setRow_heap W2 w.heap.size (doneUpto (doneAt bs) 0) #[.int .i64 y0, .int .i64 y1, .int .i64 y2, .int .i64 y3, .bool true] 65 (0, 0) Hrr.out
        have hbe2 := below_setRow Hbee.out (Nat.le_refl w.heap.size) #[.int .i64 y0, .int .i64 y1, .int .i64 y2, .int .i64 y3, .bool true]
        clear g0 g1 g2 g3 g4 Hset Hrr Hbee
        generalize W2.setRow w.heap.size #[.int .i64 y0, .int .i64 y1, .int .i64 y2, .int .i64 y3, .bool true] = W3 at hrow hbe2 ⊢
        have hrow' : Blk W3 w.heap.size #[.int .i64 y0, .int .i64 y1, .int .i64 y2, .int .i64 y3, .bool true] 65 := hrow
        have q0 := hrow'.cell 0
        have q1 := hrow'.cell 1
        have q2 := hrow'.cell 2
        have q3 := hrow'.cell 3
        have q4 := hrow'.cell 4
        simp only [List.getElem?_toArray, List.getElem?_cons_zero, List.getElem?_cons_succ] at q0 q1 q2 q3 q4
        have Hbe2 := Lib.hid hbe2
        clear hrow hrow' hbe2
        go_wp2
        exact bodyPost_ret (v := .tuple #[doneV y0 y1 y2 y3 true, .nilIface]) (by simp [results, Tryd.results45, go_sem, doneV, q0, q1, q2, q3, q4]) rfl ⟨by rw [Y0.out, Y1.out, Y2.out, Y3.out], Hbe2.out⟩
end Go.Proofs.YtkehhfgoikbciaaDoor
