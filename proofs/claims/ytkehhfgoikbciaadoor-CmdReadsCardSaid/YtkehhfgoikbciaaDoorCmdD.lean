/- cmd.Decode. -/
import Derived.Test.YtkehhfgoikbciaaDoorCmdE
import Derived.Test.YtkehhfgoikbciaaDoorCmdG
namespace Go.Proofs.YtkehhfgoikbciaaDoor
open Go.RowKit Go.WideShapes
set_option linter.unusedVariables false

/-- the k-th number of a command's bytes -/
def cmdAt (bs : List Int) (k : Nat) : Int := leNum ((bs.drop (cmdFld k).p).take (cmdFld k).L)
def uptoN (X : Nat → Int) (k i : Nat) : Int := if i < k then X i else 0
/-- a command whose first k numbers are read -/
def cmdUpto (X : Nat → Int) (k : Nat) : Array Value := #[.int .i64 (uptoN X k 0), .int .i64 (uptoN X k 1), .int .i64 (uptoN X k 2), .int .i64 (uptoN X k 3), .int .i64 (uptoN X k 4), .int .i64 (uptoN X k 5)]
theorem cmdUpto_set (X : Nat → Int) : ∀ k, k < 6 → (cmdUpto X k).setIfInBounds k (.int .i64 (X k)) = cmdUpto X (k + 1) :=
  six (P := fun k => (cmdUpto X k).setIfInBounds k (.int .i64 (X k)) = cmdUpto X (k + 1)) (by simp [cmdUpto, uptoN]) (by simp [cmdUpto, uptoN]) (by simp [cmdUpto, uptoN]) (by simp [cmdUpto, uptoN]) (by simp [cmdUpto, uptoN]) (by simp [cmdUpto, uptoN])
theorem cmd_index (b : Nat) : ∀ k, k < 6 → ∀ w, (Instr.index 160 (.agg (commandCells b)) (.int .i64 (k : Nat))).run Tryd.prog w = .ok (.agg #[.int .i64 ((cmdFld k).p : Nat), .int .i64 ((cmdFld k).L : Nat), .pointer (some ⟨b, (cmdFld k).off, none⟩)]) w :=
  six (P := fun k => ∀ w, (Instr.index 160 (.agg (commandCells b)) (.int .i64 (k : Nat))).run Tryd.prog w = .ok (.agg #[.int .i64 ((cmdFld k).p : Nat), .int .i64 ((cmdFld k).L : Nat), .pointer (some ⟨b, (cmdFld k).off, none⟩)]) w)
    (fun _ => by kernel_rfl) (fun _ => by kernel_rfl) (fun _ => by kernel_rfl) (fun _ => by kernel_rfl) (fun _ => by kernel_rfl) (fun _ => by kernel_rfl)

def zero6 : Array Value := #[.int .i64 0, .int .i64 0, .int .i64 0, .int .i64 0, .int .i64 0, .int .i64 0]
def zeroCmd : Value := .agg #[.int .i64 0, .int .i64 0, .int .i64 0, .int .i64 0, .int .i64 0, .int .i64 0]
def cmdOk (bs : List Int) (m : Nat) : Prop := ∀ k, k < m → cmdAt bs k ≤ 4611686018427387904
/-- what Decode tells of 64 bytes -/
def DecPost (w : World) (bs : List Int) (e : Ending) (w' : World) : Prop :=
  Below w.heap.size w w' ∧ ((cmdOk bs 6 ∧ e = .returned (.tuple #[cmdV (cmdAt bs 0) (cmdAt bs 1) (cmdAt bs 2) (cmdAt bs 3) (cmdAt bs 4) (cmdAt bs 5), .nilIface])) ∨
    (¬ cmdOk bs 6 ∧ e = .returned (.tuple #[zeroCmd, cmdErr 1])))

set_option maxRecDepth 100000 in
set_option maxHeartbeats 4000000 in
theorem cmd_decode_bad (a : Option Addr) (n c : Nat) (w : World) (hn : n ≤ 9223372036854775807) (h : n ≠ 64) :
    Calls Tryd.prog 43 #[.slice a n c] w fun e w' => e = .returned (.tuple #[zeroCmd, cmdErr 2]) ∧ Below w.heap.size w w' := by
  have hne : ((n : Int) == 64) = false := by simp; omega
  clear h
  go_enter Tryd.func43, Tryd.ntmps43
  go_wp2
  exact bodyPost_ret (v := .tuple #[zeroCmd, cmdErr 2]) (by simp [results, Tryd.results43, go_sem, zeroCmd, cmdErr]) rfl ⟨rfl, by (repeat (first | with_reducible exact Below.refl _ _ | with_reducible apply Below.drew | with_reducible apply below_drewN | (with_reducible refine Below.alloc ?_ (by simp) _) | (with_reducible refine Below.setCell ?_ (by simp) _)))⟩

/-- a walk stops at this operation -/
theorem wpList_stop {P : Program} {ops : Array Oper} {rest : List Oper} {o : Oper} {a : Act} {w : World} {Q : Exit → Act → World → Prop} (x : Op) (ho : o.op = x) (h : False ∨ wpList P ops Q (o :: rest) a w) : wpList P ops Q (o :: rest) a w := h.elim (fun h => h.elim) id

set_option maxRecDepth 100000 in
set_option maxHeartbeats 4000000 in
theorem cmd_decode (bb off c : Nat) (bs : List Int) (w : World) (hbs : bs.length = 64) (hbyte : ∀ x ∈ bs, 0 ≤ x ∧ x ≤ 255) (hbl : bb < w.heap.size)
    (hc : ∀ i, i < 64 → w.cell? ⟨bb, off + i, none⟩ = some (.int .u8 (bs.getD i 0))) :
    Calls Tryd.prog 43 #[.slice (some ⟨bb, off, none⟩) 64 c] w (DecPost w bs) := by
  have Hc := Lib.hid hc
  have Hbyte := Lib.hid hbyte
  clear hc hbyte
  go_enter Tryd.func43, Tryd.ntmps43
  go_wp2_with fail
  refine (cmd_command (w.heap.size + 1) _ (by simp)).mono ?_
  rintro e w1 ⟨rfl, hw1⟩
  have hw1' : Below ((w.alloc (.cells zero6 63)).alloc (.cells zero6 63)).heap.size ((w.alloc (.cells zero6 63)).alloc (.cells zero6 63)) w1 := hw1
  have hK1 : Keep (fun _ => False) ((w.alloc (.cells zero6 63)).alloc (.cells zero6 63)) w1 := Keep.ofBelow hw1' (fun k h1 h2 => absurd h1 (by omega))
  have e0 : cmdUpto (cmdAt bs) 0 = zero6 := by simp [cmdUpto, uptoN, zero6]
  have hr1 : Blk w1 w.heap.size (cmdUpto (cmdAt bs) 0) 63 := by rw [e0]; exact hK1.blk ((Blk.new _ _ _).alloc _) (fun h => h)
  have hc1 : Blk w1 (w.heap.size + 1) (cmdUpto (cmdAt bs) 0) 63 := by
    rw [e0]
    have := hK1.blk (Blk.new (w.alloc (.cells zero6 63)) zero6 63) (fun h => h)
    simpa using this
  have hbe1 : Below w.heap.size w w1 := (((Below.refl _ _).alloc (Nat.le_refl _) _).alloc (by simp) _).trans (hw1'.mono (by simp; omega))
  clear hw1' e0
  have Hr1 := Lib.hid hr1
  have Hc1 := Lib.hid hc1
  have Hbe1 := Lib.hid hbe1
  clear hw1 hK1 hr1 hc1 hbe1
  obtain ⟨cb, hcb⟩ : ∃ cb, cb = w.heap.size + 1 := ⟨_, rfl⟩
  have hcbl : w.heap.size < cb := by omega
  rw [← hcb] at Hc1 ⊢
  clear hcb
  go_wp2_with fail
  go_loopw [14] (fun i wr => ∃ k : Nat, k ≤ 6 ∧ i = .int .i64 k ∧ cmdOk bs k ∧ Blk wr w.heap.size (cmdUpto (cmdAt bs) 0) 63 ∧ Blk wr cb (cmdUpto (cmdAt bs) k) 63 ∧ Below w.heap.size w wr) (fun i _ => 6 - (intOf i).toNat)
  case atStart => exact ⟨0, by omega, rfl, fun k hk => absurd hk (by omega), Hr1.out, Hc1.out, Hbe1.out⟩
  case round =>
    obtain ⟨k, hk, rfl, hok, hr, hcmd, hbe⟩ := hrel
    by_cases hlt : k < 6
    · have hidx := cmd_index cb k hlt
      have hF := six (P := fun k => (cmdFld k).p + (cmdFld k).L ≤ 64 ∧ ((cmdFld k).L = 1 ∨ (cmdFld k).L = 2 ∨ (cmdFld k).L = 4 ∨ (cmdFld k).L = 8) ∧ (cmdFld k).off = k) (by simp [cmdFld]) (by simp [cmdFld]) (by simp [cmdFld]) (by simp [cmdFld]) (by simp [cmdFld]) (by simp [cmdFld]) k hlt
      have hX : cmdAt bs k = leNum ((bs.drop (cmdFld k).p).take (cmdFld k).L) := rfl
      have hset := cmdUpto_set (cmdAt bs) k hlt
      have hnew : cmdAt bs k ≤ 4611686018427387904 → cmdOk bs (k + 1) := fun h j hj => by
        by_cases e : j = k
        · subst e; exact h
        · exact hok j (by omega)
      have hnot : ¬ cmdAt bs k ≤ 4611686018427387904 → ¬ cmdOk bs 6 := fun h h' => h (h' k hlt)
      obtain ⟨hF1, hF2, hF3⟩ := hF
      rw [hF3] at hidx
      have hb0 := leNum_bd ((bs.drop (cmdFld k).p).take (cmdFld k).L) (fun x hx => Hbyte.out x (List.mem_of_mem_drop (List.mem_of_mem_take hx)))
      have hl0 : ((bs.drop (cmdFld k).p).take (cmdFld k).L).length = (cmdFld k).L := by simp; omega
      rw [hl0, ← hX] at hb0
      have hb1 : cmdAt bs k < 18446744073709551616 := by
        rcases hF2 with h | h | h | h <;> rw [h] at hb0 <;> (have := hb0.2; simp at this; omega)
      have hb0' := hb0.1
      clear hb0 hl0 hok
      generalize (cmdFld k).p = pp at *
      generalize (cmdFld k).L = LL at *
      have HX := Lib.hid hX
      have Hset := Lib.hid hset
      have Hnew := Lib.hid hnew
      have Hnot := Lib.hid hnot
      have fcb := hcmd.free k
      have ccb : ∃ v0, wr.cell? ⟨cb, k, none⟩ = some v0 := by
        rw [hcmd.cell]
        exact ⟨_, Array.getElem?_eq_getElem (by simp [cmdUpto]; omega)⟩
      obtain ⟨v0, ccb⟩ := ccb
      have clt := hcmd.lt
      have hsz := hbe.size
      have Hr := Lib.hid hr
      have Hcmd := Lib.hid hcmd
      have Hbe := Lib.hid hbe
      clear hX hset hnew hnot hr hcmd hbe
      generalize cmdAt bs k = xk at *
      go_wp2_with fail
      refine (cmd_get pp LL bb off 64 c bs _ (by omega) hF1 (by omega) hbs Hbyte.out (by simp; omega) (fun i hi => by rw [World.cell?_alloc_past _ _ _ (by omega), Hbe.out.cell (p := ⟨bb, off + i, none⟩) hbl]; exact Hc.out i hi)).mono ?_
      rintro e w' ⟨rfl, rfl⟩
      rw [← HX.out]
      by_cases hle : xk ≤ 4611686018427387904
      · have Hok := Lib.hid (Hnew.out hle)
        go_wp2_with fail
        go_roundw
        case rel =>
          have hr := Hr.out
          have hcmd := Hcmd.out
          have hbe := Hbe.out
          refine ⟨k + 1, by omega, by go_num, Hok.out, ?_, Blk.of (c := (cmdUpto (cmdAt bs) k).setIfInBounds k (.int .i64 xk)) ?_ Hset.out, ?_⟩
          · repeat (first | with_reducible exact hr | with_reducible apply Blk.alloc | (with_reducible refine Blk.setOther ?_ (by simp; omega) _))
          · repeat (first | with_reducible exact hcmd | with_reducible apply Blk.alloc | with_reducible apply Blk.set)
          · repeat (first | with_reducible exact hbe | (with_reducible refine Below.alloc ?_ (by simp; omega) _) | (with_reducible refine Below.setCell ?_ (by simp; omega) _))
        case measure => simp [intOf]; omega
      · have Hno := Lib.hid (Hnot.out (by omega))
        have hgt : 4611686018427387904 < xk := by omega
        clear hle
        go_wp2_with (with_reducible refine wpList_store_row rfl 63 (.tmp 2) (.tmp 23) rfl w.heap.size zero6 rfl rfl 63 (cmdUpto (cmdAt bs) 0) ?hg (by kernel_rfl) rfl (by simp [zero6, Value.oneCell']) ?_)
        case hg => exact (Hr.out.alloc _).alloc _
        have hrow := setRow_heap _ w.heap.size (cmdUpto (cmdAt bs) 0) zero6 63 (0, 0) ((Hr.out.alloc (.cells #[.int .i64 (pp : Int), .int .i64 (LL : Int), .pointer (some ⟨cb, k, none⟩)] 159)).alloc (.cells #[.int .i64 (pp : Int), .int .i64 (LL : Int)] 156))
        have hbe2 := below_setRow ((Hbe.out.alloc hsz (.cells #[.int .i64 (pp : Int), .int .i64 (LL : Int), .pointer (some ⟨cb, k, none⟩)] 159)).alloc (by simp; omega) (.cells #[.int .i64 (pp : Int), .int .i64 (LL : Int)] 156)) (Nat.le_refl w.heap.size) zero6
        generalize ((wr.alloc (.cells #[.int .i64 (pp : Int), .int .i64 (LL : Int), .pointer (some ⟨cb, k, none⟩)] 159)).alloc (.cells #[.int .i64 (pp : Int), .int .i64 (LL : Int)] 156)).setRow w.heap.size zero6 = W3 at hrow hbe2 ⊢
        have hrow' : Blk W3 w.heap.size zero6 63 := hrow
        have q0 := hrow'.cell 0
        have q1 := hrow'.cell 1
        have q2 := hrow'.cell 2
        have q3 := hrow'.cell 3
        have q4 := hrow'.cell 4
        have q5 := hrow'.cell 5
        simp only [zero6] at q0 q1 q2 q3 q4 q5
        have Hbe2 := Lib.hid hbe2
        clear hrow hrow' hbe2
        go_wp2
        exact bodyPost_ret (v := .tuple #[zeroCmd, cmdErr 1]) (by simp [results, Tryd.results43, go_sem, zeroCmd, cmdErr, q0, q1, q2, q3, q4, q5]) rfl ⟨Hbe2.out, .inr ⟨Hno.out, rfl⟩⟩
    · obtain rfl : k = 6 := by omega
      have e6 : cmdUpto (cmdAt bs) 6 = #[.int .i64 (cmdAt bs 0), .int .i64 (cmdAt bs 1), .int .i64 (cmdAt bs 2), .int .i64 (cmdAt bs 3), .int .i64 (cmdAt bs 4), .int .i64 (cmdAt bs 5)] := by simp [cmdUpto, uptoN]
      rw [e6] at hcmd
      have hrow := setRow_heap wr w.heap.size (cmdUpto (cmdAt bs) 0) #[.int .i64 (cmdAt bs 0), .int .i64 (cmdAt bs 1), .int .i64 (cmdAt bs 2), .int .i64 (cmdAt bs 3), .int .i64 (cmdAt bs 4), .int .i64 (cmdAt bs 5)] 63 (0, 0) hr
      have hbe2 := below_setRow hbe (Nat.le_refl w.heap.size) #[.int .i64 (cmdAt bs 0), .int .i64 (cmdAt bs 1), .int .i64 (cmdAt bs 2), .int .i64 (cmdAt bs 3), .int .i64 (cmdAt bs 4), .int .i64 (cmdAt bs 5)]
      have Hrow := Lib.hid hrow
      have Hbe2 := Lib.hid hbe2
      have Hr := Lib.hid hr
      have Hcmd := Lib.hid hcmd
      have Hok := Lib.hid hok
      clear hrow hbe2 hr hcmd hok e6 hbe
      generalize hy0 : cmdAt bs 0 = y0 at *
      have Y0 := Lib.hid hy0
      clear hy0
      generalize hy1 : cmdAt bs 1 = y1 at *
      have Y1 := Lib.hid hy1
      clear hy1
      generalize hy2 : cmdAt bs 2 = y2 at *
      have Y2 := Lib.hid hy2
      clear hy2
      generalize hy3 : cmdAt bs 3 = y3 at *
      have Y3 := Lib.hid hy3
      clear hy3
      generalize hy4 : cmdAt bs 4 = y4 at *
      have Y4 := Lib.hid hy4
      clear hy4
      generalize hy5 : cmdAt bs 5 = y5 at *
      have Y5 := Lib.hid hy5
      clear hy5
      have g0 := Hcmd.out.cell 0
      have g1 := Hcmd.out.cell 1
      have g2 := Hcmd.out.cell 2
      have g3 := Hcmd.out.cell 3
      have g4 := Hcmd.out.cell 4
      have g5 := Hcmd.out.cell 5
      simp only [List.getElem?_toArray, List.getElem?_cons_zero, List.getElem?_cons_succ] at g0 g1 g2 g3 g4 g5
      go_wp2_with (with_reducible refine wpList_stop (.store 63 (.tmp 2) (.tmp 31)) rfl ?_)
      refine .inr ?_
      refine wpList_store_row rfl 63 (.tmp 2) (.tmp 31) rfl w.heap.size #[.int .i64 y0, .int .i64 y1, .int .i64 y2, .int .i64 y3, .int .i64 y4, .int .i64 y5] rfl rfl 63 (cmdUpto (cmdAt bs) 0) Hr.out (by kernel_rfl) rfl (by simp [Value.oneCell']) ?_
      clear g0 g1 g2 g3 g4 g5
      generalize wr.setRow w.heap.size #[.int .i64 y0, .int .i64 y1, .int .i64 y2, .int .i64 y3, .int .i64 y4, .int .i64 y5] = W3 at Hrow Hbe2 ⊢
      have hrow' : Blk W3 w.heap.size #[.int .i64 y0, .int .i64 y1, .int .i64 y2, .int .i64 y3, .int .i64 y4, .int .i64 y5] 63 := Hrow.out
      have q0 := hrow'.cell 0
      have q1 := hrow'.cell 1
      have q2 := hrow'.cell 2
      have q3 := hrow'.cell 3
      have q4 := hrow'.cell 4
      have q5 := hrow'.cell 5
      simp only [List.getElem?_toArray, List.getElem?_cons_zero, List.getElem?_cons_succ] at q0 q1 q2 q3 q4 q5
      clear hrow'
      go_wp2
      exact bodyPost_ret (v := .tuple #[cmdV y0 y1 y2 y3 y4 y5, .nilIface]) (by simp [results, Tryd.results43, go_sem, cmdV, q0, q1, q2, q3, q4, q5]) rfl ⟨Hbe2.out, .inl ⟨Hok.out, by rw [Y0.out, Y1.out, Y2.out, Y3.out, Y4.out, Y5.out]⟩⟩
end Go.Proofs.YtkehhfgoikbciaaDoor
