/- granarylaw3.CmdLoose returns true, and writes nothing that was there. -/
import Derived.Test.YtlcjikeolfebnaaCmdLaw
import Derived.Test.YtlcjikeolfebnaaBytes
import Derived.Deep.CutRange
namespace Go.Proofs.Ytlcjikeolfebnaa
open Go.RowKit Go.WideShapes
set_option linter.unusedVariables false

def Loose (q : Nat) : Prop := q < 64 ∧ (40 ≤ q ∨ (4 ≤ q ∧ q ≤ 7) ∨ q = 1 ∨ (20 ≤ q ∧ q ≤ 23))
theorem map_set_u8 (bs : List Int) (q : Nat) (v : Int) : ((bs.map (Value.int .u8)).toArray).setIfInBounds q (.int .u8 v) = ((bs.set q v).map (Value.int .u8)).toArray := by
  simp [List.map_set]
theorem map_cell_u8 (bs : List Int) (i : Nat) (h : i < bs.length) : ((bs.map (Value.int .u8)).toArray)[i]? = some (.int .u8 (bs.getD i 0)) := by
  simp [List.getD, List.getElem?_eq_getElem h]

set_option maxRecDepth 100000 in
set_option maxHeartbeats 4000000 in
theorem cmdLoose_walk (w : World) (x0 x1 x2 x3 x4 x5 : Int) (b0 : I64 x0) (b1 : I64 x1) (b2 : I64 x2) (b3 : I64 x3) (b4 : I64 x4) (b5 : I64 x5)
    (a : Option Addr) (len cap : Nat) (z : List Int) (hz : IsRow .u8 1 w a len cap z) :
    Calls Try.prog 7 #[cmdV x0 x1 x2 x3 x4 x5, .slice a len cap] w fun e w' => e = .returned (.bool true) ∧ Below w.heap.size w w' := by
  obtain ⟨xs, rfl, xl, xb, hx⟩ := hz.bytes
  clear hz
  have Xb := Lib.hid xb
  have Hx := Lib.hid hx
  have HE := Lib.hid (fun w' => cmd_encode x0 x1 x2 x3 x4 x5 w' b0 b1 b2 b3 b4 b5)
  clear xb hx b0 b1 b2 b3 b4 b5
  unfold cmdV at HE ⊢
  go_enter Try.func7, Try.ntmps7
  go_wp2_with fail
  refine (HE.out _).mono ?_
  rintro e w1 ⟨hw1, h⟩
  have hbe1 : Below w.heap.size w w1 := ((Below.refl _ _).alloc (Nat.le_refl _) _).trans (hw1.mono (by simp))
  have hc1 : Blk w1 w.heap.size #[.int .i64 x0, .int .i64 x1, .int .i64 x2, .int .i64 x3, .int .i64 x4, .int .i64 x5] 46 := (Keep.ofBelow (S := fun _ => False) hw1 (fun k h1 h2 => absurd h1 (by omega))).blk (Blk.new _ _ _) (fun h => h)
  have Hbe1 := Lib.hid hbe1
  have Hc1 := Lib.hid hc1
  clear hw1 hbe1 hc1 HE
  rcases h with ⟨hfit, g, hg, rfl, hb⟩ | ⟨hno, rfl⟩
  case inr =>
    unfold cmdErr
    go_wp2
    go_ret
    exact ⟨rfl, Hbe1.out⟩
  have hs := says_written _ hfit
  have hg' : w.heap.size < g := by simp at hg; omega
  generalize bytesAfter 64 cmdFld (cmdNum x0 x1 x2 x3 x4 x5) 6 = bs0 at *
  have Hs0 := Lib.hid hs
  have Hb0 := Lib.hid hb
  clear hs hb hfit hg
  go_wp2_with fail
  go_loopw [7] (fun i wr => ∃ (k : Nat) (bs : List Int), k ≤ xs.length ∧ i = .int .i64 k ∧ Says bs (cmdNum x0 x1 x2 x3 x4 x5) ∧ Blk wr g (bs.map (Value.int .u8)).toArray 5 ∧
    Blk wr w.heap.size #[.int .i64 x0, .int .i64 x1, .int .i64 x2, .int .i64 x3, .int .i64 x4, .int .i64 x5] 46 ∧ Below w.heap.size w wr) (fun i _ => xs.length - (intOf i).toNat)
  case atStart => exact ⟨0, bs0, by omega, rfl, Hs0.out, Hb0.out, Hc1.out, Hbe1.out⟩
  case round =>
    obtain ⟨k, bs, hk, rfl, hs, hb, hc, hbe⟩ := hrel
    have hlen := hs.len
    by_cases hlt : k < xs.length
    · have cx : ∃ x : Int, 0 ≤ x ∧ x ≤ 255 ∧ ∃ b off, a = some ⟨b, off, none⟩ ∧ b < w.heap.size ∧ wr.cell? ⟨b, off + k, none⟩ = some (.int .u8 x) := by
        rcases Hx.out wr hbe with h | ⟨b, off, e, h⟩
        · omega
        · have h1 := h k hlt
          have h0 := (Hx.out w (Below.refl _ _))
          refine ⟨xs.getD k 0, ?_, ?_, b, off, e, ?_, h1⟩
          · have := Xb.out (xs.getD k 0) (by simp [List.getD, List.getElem?_eq_getElem hlt]); exact this.1
          · have := Xb.out (xs.getD k 0) (by simp [List.getD, List.getElem?_eq_getElem hlt]); exact this.2
          · rcases h0 with h0 | ⟨b', off', e', h0⟩
            · omega
            · rw [e] at e'; cases e'; exact cell_lt (h0 k hlt)
      obtain ⟨x, x0', x1', b, off, rfl, hbl, cx⟩ := cx
      have hR : ∀ q : Nat, Loose q → ∃ (k' : Nat) (bs' : List Int), k' ≤ xs.length ∧ Value.int .i64 ((k : Int) + 1) = .int .i64 k' ∧ Says bs' (cmdNum x0 x1 x2 x3 x4 x5) ∧ Blk (wr.setCell ⟨g, q, none⟩ (.int .u8 x)) g (bs'.map (Value.int .u8)).toArray 5 ∧
          Blk (wr.setCell ⟨g, q, none⟩ (.int .u8 x)) w.heap.size #[.int .i64 x0, .int .i64 x1, .int .i64 x2, .int .i64 x3, .int .i64 x4, .int .i64 x5] 46 ∧ Below w.heap.size w (wr.setCell ⟨g, q, none⟩ (.int .u8 x)) :=
        fun q hq => ⟨k + 1, bs.set q x, by omega, by simp, hs.set q x ⟨x0', x1'⟩ (loose_far q hq.2), (hb.set q _).of (map_set_u8 _ _ _), hc.setOther (by simp; omega) _, hbe.setCell (by simp; omega) _⟩
      have R1 := Lib.hid (hR (40 + k % 24) ⟨by omega, by omega⟩)
      have R2 := Lib.hid (hR (4 + k % 4) ⟨by omega, by omega⟩)
      have R3 := Lib.hid (hR 1 ⟨by omega, by omega⟩)
      have R4 := Lib.hid (hR (20 + k % 4) ⟨by omega, by omega⟩)
      have hgc : ∀ q : Nat, q < 64 → wr.cell? ⟨g, q, none⟩ = some (.int .u8 (bs.getD q 0)) := fun q hq => by rw [hb.cell, map_cell_u8 _ _ (by omega)]
      have c1 := hgc (40 + k % 24) (by omega)
      have c2 := hgc (4 + k % 4) (by omega)
      have c3 := hgc 1 (by omega)
      have c4 := hgc (20 + k % 4) (by omega)
      have f1 := hb.free (40 + k % 24)
      have f2 := hb.free (4 + k % 4)
      have f3 := hb.free 1
      have f4 := hb.free (20 + k % 4)
      clear hR hgc hb hc hbe hs
      go_wp2
      all_goals (go_roundw)
      case rel => first | exact R1.out | exact R2.out | exact R3.out | exact R4.out
      all_goals (first | exact R1.out | exact R2.out | exact R3.out | exact R4.out | (simp [intOf]; omega))
    · have hcc : ∀ i, i < 64 → wr.cell? ⟨g, 0 + i, none⟩ = some (.int .u8 (bs.getD i 0)) := fun q hq => by rw [Nat.zero_add, hb.cell, map_cell_u8 _ _ (by omega)]
      have HD := Lib.hid (cmd_decode g 0 64 bs wr hlen hs.byte hb.lt hcc)
      have Hs := Lib.hid hs
      have Hc := Lib.hid hc
      have Hbe := Lib.hid hbe
      have hsz := hbe.size
      clear hcc hb hs hc hbe
      go_wp2_with fail
      refine HD.out.mono ?_
      rintro e w3 ⟨hw3, h⟩
      rcases h with ⟨_, rfl⟩ | ⟨hno, _⟩
      case inr => exact absurd Hs.out.ok hno
      have e0 := Hs.out.num 0 (by omega)
      have e1 := Hs.out.num 1 (by omega)
      have e2 := Hs.out.num 2 (by omega)
      have e3 := Hs.out.num 3 (by omega)
      have e4 := Hs.out.num 4 (by omega)
      have e5 := Hs.out.num 5 (by omega)
      simp only [cmdNum] at e0 e1 e2 e3 e4 e5
      rw [e0, e1, e2, e3, e4, e5]
      have hc3 := (Keep.ofBelow (S := fun _ => False) hw3 (fun k h1 h2 => absurd h1 (by omega))).blk Hc.out (fun h => h)
      have hbe3 := Hbe.out.trans (hw3.mono Hbe.out.size)
      clear e0 e1 e2 e3 e4 e5 hw3
      unfold cmdV
      go_wp2_with (with_reducible refine wpList_stop (.store 46 (.tmp 9) (.tmp 54)) rfl ?_)
      refine .inr ?_
      refine wpList_store_row rfl 46 (.tmp 9) (.tmp 54) rfl w3.heap.size #[.int .i64 x0, .int .i64 x1, .int .i64 x2, .int .i64 x3, .int .i64 x4, .int .i64 x5] rfl rfl 46 zero6 ?hg (by kernel_rfl) rfl (by simp [Value.oneCell']) ?_
      case hg => exact Blk.new _ _ _
      have hrow : Blk ((w3.alloc (.cells zero6 46)).setRow w3.heap.size #[.int .i64 x0, .int .i64 x1, .int .i64 x2, .int .i64 x3, .int .i64 x4, .int .i64 x5]) w3.heap.size #[.int .i64 x0, .int .i64 x1, .int .i64 x2, .int .i64 x3, .int .i64 x4, .int .i64 x5] 46 := setRow_heap _ w3.heap.size zero6 #[.int .i64 x0, .int .i64 x1, .int .i64 x2, .int .i64 x3, .int .i64 x4, .int .i64 x5] 46 (0, 0) (Blk.new _ _ _)
      have hkeep : Keep (fun _ => False) w3 ((w3.alloc (.cells zero6 46)).setRow w3.heap.size #[.int .i64 x0, .int .i64 x1, .int .i64 x2, .int .i64 x3, .int .i64 x4, .int .i64 x5]) := ((Keep.refl _ w3).alloc _).setRow (.inr (Nat.le_refl _)) _
      have hc4 := hkeep.blk hc3 (fun h => h)
      have hbe4 : Below w.heap.size w ((w3.alloc (.cells zero6 46)).setRow w3.heap.size #[.int .i64 x0, .int .i64 x1, .int .i64 x2, .int .i64 x3, .int .i64 x4, .int .i64 x5]) := hbe3.trans (hkeep.below w.heap.size hbe3.size (fun k h => h.elim))
      clear hkeep hc3 hbe3
      simp only [zero6] at hrow hc4 hbe4 ⊢
      generalize (w3.alloc (.cells #[.int .i64 0, .int .i64 0, .int .i64 0, .int .i64 0, .int .i64 0, .int .i64 0] 46)).setRow w3.heap.size #[.int .i64 x0, .int .i64 x1, .int .i64 x2, .int .i64 x3, .int .i64 x4, .int .i64 x5] = w4 at hrow hc4 hbe4 ⊢
      have q0 := hc4.cell 0
      have q1 := hc4.cell 1
      have q2 := hc4.cell 2
      have q3 := hc4.cell 3
      have q4 := hc4.cell 4
      have q5 := hc4.cell 5
      have r0 := hrow.cell 0
      have r1 := hrow.cell 1
      have r2 := hrow.cell 2
      have r3 := hrow.cell 3
      have r4 := hrow.cell 4
      have r5 := hrow.cell 5
      simp only [List.getElem?_toArray, List.getElem?_cons_zero, List.getElem?_cons_succ] at q0 q1 q2 q3 q4 q5 r0 r1 r2 r3 r4 r5
      have Hbe4 := Lib.hid hbe4
      clear hc4 hrow hbe4
      go_wp2
      go_ret
      exact ⟨by simp, Hbe4.out⟩
end Go.Proofs.Ytlcjikeolfebnaa
