/- granaryref2.DoneFault, DoneOf. -/
import Derived.Test.YtkehhfgoikbciaaDoorCmdOf
import Derived.Test.YtkehhfgoikbciaaDoorDoneE
namespace Go.Proofs.YtkehhfgoikbciaaDoor
open Go.RowKit
set_option linter.unusedVariables false

def doneFits (x0 x1 x2 x3 : Int) : Prop := (0 ≤ x0 ∧ x0 ≤ 65535) ∧ (0 ≤ x1 ∧ x1 ≤ 65535) ∧ (0 ≤ x2 ∧ x2 ≤ 65535) ∧ (0 ≤ x3 ∧ x3 ≤ 255)
theorem doneFits_iff (x0 x1 x2 x3 : Int) : doneFits x0 x1 x2 x3 ↔ allFit doneFld (doneNum x0 x1 x2 x3) 4 := by
  constructor
  · rintro ⟨h0, h1, h2, h3⟩
    exact four (by simp [fits, limOf, doneFld, doneNum]; omega) (by simp [fits, limOf, doneFld, doneNum]; omega) (by simp [fits, limOf, doneFld, doneNum]; omega) (by simp [fits, limOf, doneFld, doneNum]; omega)
  · intro h
    have h0 := h 0 (by omega)
    have h1 := h 1 (by omega)
    have h2 := h 2 (by omega)
    have h3 := h 3 (by omega)
    simp [fits, limOf, doneFld, doneNum] at h0 h1 h2 h3
    unfold doneFits
    omega

set_option maxRecDepth 100000 in
set_option maxHeartbeats 4000000 in
theorem done_fault (x0 x1 x2 x3 : Int) (ph : Bool) (w : World) (b0 : IW x0) (b1 : IW x1) (b2 : IW x2) (b3 : IW x3) :
    Calls Tryd.prog 41 #[doneV x0 x1 x2 x3 ph] w fun e w' => (doneFits x0 x1 x2 x3 ∧ e = .returned (.int .i64 0) ∨ ¬ doneFits x0 x1 x2 x3 ∧ e = .returned (.int .i64 1)) ∧ Below w.heap.size w w' := by
  unfold doneV
  go_enter Tryd.func41, Tryd.ntmps41
  go_wp2
  all_goals go_ret
  all_goals (refine ⟨?_, (Below.refl _ _).alloc (Nat.le_refl _) _⟩; unfold doneFits)
  all_goals first | (left; refine ⟨?_, rfl⟩; omega) | (right; refine ⟨?_, rfl⟩; omega) | skip

def doneRef (x0 x1 x2 x3 : Int) (ph : Bool) : List Int := [x0 % 256, x0 / 256, x1 % 256, x1 / 256, x2 % 256, x2 / 256, x3, if ph then 1 else 0] ++ List.replicate 8 0
theorem doneRef_bytes (x0 x1 x2 x3 : Int) (ph : Bool) (h : doneFits x0 x1 x2 x3) : doneRef x0 x1 x2 x3 ph = doneBytes (doneNum x0 x1 x2 x3) ph := by
  obtain ⟨h0, h1, h2, h3⟩ := h
  have a0 : x0 / 256 % 256 = x0 / 256 := by omega
  have a1 : x1 / 256 % 256 = x1 / 256 := by omega
  have a2 : x2 / 256 % 256 = x2 / 256 := by omega
  have a3 : x3 % 256 = x3 := by omega
  cases ph <;> simp [doneRef, doneBytes, bytesAfter, splice, doneFld, doneNum, leDig, a0, a1, a2, a3, List.replicate]

theorem own_grown8 {wr : World} {cs : Array Value} {base g N : Nat} {t : TypeId} (hs : cs.size = 8) (h1 : 16 ≤ N) (h2 : N ≤ maxLen) (hb : base ≤ g)
    (hblk : Blk wr g (cs ++ (Builtin.zeroCells #[Value.int .u8 0] 8 ++ Builtin.zeroCells #[Value.int .u8 0] (N - 16))) t) :
    wr.ownsRow base t 1 (.slice (some ⟨g, 0, none⟩) 16 N) 16 (cs.toList ++ List.replicate 8 (Value.int .u8 0)) := by
  have hl : (cs.toList ++ List.replicate 8 (Value.int .u8 0)).length = 16 := by simp [hs]
  refine ⟨by rw [hl], .inr ⟨g, N, _, rfl, hb, hblk, h1, h2, by simp [size_zeroCells, hs]; omega, ?_⟩⟩
  rw [Array.toList_append, Array.toList_append, zeroCells_u8, ← List.append_assoc, Nat.mul_one]
  rw [show (16 : Nat) = (cs.toList ++ List.replicate 8 (Value.int .u8 0)).length from hl.symm]
  exact List.take_left

set_option maxRecDepth 100000 in
set_option maxHeartbeats 8000000 in
theorem done_of_ref (x0 x1 x2 x3 : Int) (ph : Bool) (w : World) (h : doneFits x0 x1 x2 x3) :
    Calls Tryd.prog 42 #[doneV x0 x1 x2 x3 ph] w fun e w' => ∃ v, e = .returned v ∧ w'.ownsRow (w.heap.size + 1) 5 1 v 16 ((doneRef x0 x1 x2 x3 ph).map (Value.int .u8)) ∧ Below w.heap.size w w' := by
  obtain ⟨i0, hi, hz0', hz1, hz2⟩ := info_parts (P := Tryd.prog) (e := 5) (z := .int .u8 0) (size := 1) (bytes := 1) (by kernel_rfl)
  have Hi := Lib.hid hi
  have Hz0 := Lib.hid hz0'
  have Hz1 := Lib.hid hz1
  have Hz2 := Lib.hid hz2
  clear hi hz0' hz1 hz2
  obtain ⟨h0, h1, h2, h3⟩ := h
  have e1 : Int.tdiv x0 256 = x0 / 256 := Int.tdiv_eq_ediv_of_nonneg (by omega)
  have e2 : IntKind.i64.wrap (x0 / 256) = x0 / 256 := IntWalk.i64_in _ (by omega)
  have e3 : Int.tdiv x1 256 = x1 / 256 := Int.tdiv_eq_ediv_of_nonneg (by omega)
  have e4 : IntKind.i64.wrap (x1 / 256) = x1 / 256 := IntWalk.i64_in _ (by omega)
  have e5 : Int.tdiv x2 256 = x2 / 256 := Int.tdiv_eq_ediv_of_nonneg (by omega)
  have e6 : IntKind.i64.wrap (x2 / 256) = x2 / 256 := IntWalk.i64_in _ (by omega)
  unfold doneV
  have hN1 := grownCap_ge w 16 8 5
  have hN2 := grownCap_le_maxLen w 16 8 5 (by decide)
  have HN1 := Lib.hid hN1
  have HN2 := Lib.hid hN2
  clear hN1 hN2
  cases ph
  · go_enter Tryd.func42, Tryd.ntmps42
    go_wp2_with fail
    go_ret
    refine ⟨_, rfl, ?_, ?_⟩
    · have := own_grown8 (cs := #[.int .u8 (x0 % 256), .int .u8 (x0 / 256), .int .u8 (x1 % 256), .int .u8 (x1 / 256), .int .u8 (x2 % 256), .int .u8 (x2 / 256), .int .u8 x3, .int .u8 0]) (base := w.heap.size + 1) (t := 5) (g := w.heap.size + 1 + 1) rfl HN1.out HN2.out (by omega) (by
        have := Blk.new ((w.alloc (Obj.cells #[.int .i64 x0, .int .i64 x1, .int .i64 x2, .int .i64 x3, .bool false] 65)).alloc (Obj.cells #[.int .u8 (x0 % 256), .int .u8 (x0 / 256), .int .u8 (x1 % 256), .int .u8 (x1 / 256), .int .u8 (x2 % 256), .int .u8 (x2 / 256), .int .u8 x3, .int .u8 0] 5)) (#[.int .u8 (x0 % 256), .int .u8 (x0 / 256), .int .u8 (x1 % 256), .int .u8 (x1 / 256), .int .u8 (x2 % 256), .int .u8 (x2 / 256), .int .u8 x3, .int .u8 0] ++ (Builtin.zeroCells #[Value.int .u8 0] 8 ++ Builtin.zeroCells #[Value.int .u8 0] (grownCap w 16 8 5 - 16))) 5
        rw [show ((w.alloc (Obj.cells #[.int .i64 x0, .int .i64 x1, .int .i64 x2, .int .i64 x3, .bool false] 65)).alloc (Obj.cells #[.int .u8 (x0 % 256), .int .u8 (x0 / 256), .int .u8 (x1 % 256), .int .u8 (x1 / 256), .int .u8 (x2 % 256), .int .u8 (x2 / 256), .int .u8 x3, .int .u8 0] 5)).heap.size = w.heap.size + 1 + 1 by simp] at this
        exact this.drew)
      exact this
    · have hb := (((Below.refl w.heap.size w).alloc (Nat.le_refl _) (Obj.cells #[.int .i64 x0, .int .i64 x1, .int .i64 x2, .int .i64 x3, .bool false] 65)).alloc (by simp) (Obj.cells #[.int .u8 (x0 % 256), .int .u8 (x0 / 256), .int .u8 (x1 % 256), .int .u8 (x1 / 256), .int .u8 (x2 % 256), .int .u8 (x2 / 256), .int .u8 x3, .int .u8 0] 5)).alloc (by simp; omega) (Obj.cells (#[.int .u8 (x0 % 256), .int .u8 (x0 / 256), .int .u8 (x1 % 256), .int .u8 (x1 / 256), .int .u8 (x2 % 256), .int .u8 (x2 / 256), .int .u8 x3, .int .u8 0] ++ (Builtin.zeroCells #[Value.int .u8 0] 8 ++ Builtin.zeroCells #[Value.int .u8 0] (grownCap w 16 8 5 - 16))) 5)
      exact ⟨hb.os, hb.tape, hb.output, hb.size, hb.block⟩
  · go_enter Tryd.func42, Tryd.ntmps42
    go_wp2_with fail
    go_ret
    refine ⟨_, rfl, ?_, ?_⟩
    · have := own_grown8 (cs := #[.int .u8 (x0 % 256), .int .u8 (x0 / 256), .int .u8 (x1 % 256), .int .u8 (x1 / 256), .int .u8 (x2 % 256), .int .u8 (x2 / 256), .int .u8 x3, .int .u8 1]) (base := w.heap.size + 1) (t := 5) (g := w.heap.size + 1 + 1) rfl HN1.out HN2.out (by omega) (by
        have := Blk.new ((w.alloc (Obj.cells #[.int .i64 x0, .int .i64 x1, .int .i64 x2, .int .i64 x3, .bool true] 65)).alloc (Obj.cells #[.int .u8 (x0 % 256), .int .u8 (x0 / 256), .int .u8 (x1 % 256), .int .u8 (x1 / 256), .int .u8 (x2 % 256), .int .u8 (x2 / 256), .int .u8 x3, .int .u8 1] 5)) (#[.int .u8 (x0 % 256), .int .u8 (x0 / 256), .int .u8 (x1 % 256), .int .u8 (x1 / 256), .int .u8 (x2 % 256), .int .u8 (x2 / 256), .int .u8 x3, .int .u8 1] ++ (Builtin.zeroCells #[Value.int .u8 0] 8 ++ Builtin.zeroCells #[Value.int .u8 0] (grownCap w 16 8 5 - 16))) 5
        rw [show ((w.alloc (Obj.cells #[.int .i64 x0, .int .i64 x1, .int .i64 x2, .int .i64 x3, .bool true] 65)).alloc (Obj.cells #[.int .u8 (x0 % 256), .int .u8 (x0 / 256), .int .u8 (x1 % 256), .int .u8 (x1 / 256), .int .u8 (x2 % 256), .int .u8 (x2 / 256), .int .u8 x3, .int .u8 1] 5)).heap.size = w.heap.size + 1 + 1 by simp] at this
        exact this.drew)
      exact this
    · have hb := (((Below.refl w.heap.size w).alloc (Nat.le_refl _) (Obj.cells #[.int .i64 x0, .int .i64 x1, .int .i64 x2, .int .i64 x3, .bool true] 65)).alloc (by simp) (Obj.cells #[.int .u8 (x0 % 256), .int .u8 (x0 / 256), .int .u8 (x1 % 256), .int .u8 (x1 / 256), .int .u8 (x2 % 256), .int .u8 (x2 / 256), .int .u8 x3, .int .u8 1] 5)).alloc (by simp; omega) (Obj.cells (#[.int .u8 (x0 % 256), .int .u8 (x0 / 256), .int .u8 (x1 % 256), .int .u8 (x1 / 256), .int .u8 (x2 % 256), .int .u8 (x2 / 256), .int .u8 x3, .int .u8 1] ++ (Builtin.zeroCells #[Value.int .u8 0] 8 ++ Builtin.zeroCells #[Value.int .u8 0] (grownCap w 16 8 5 - 16))) 5)
      exact ⟨hb.os, hb.tape, hb.output, hb.size, hb.block⟩
end Go.Proofs.YtkehhfgoikbciaaDoor
