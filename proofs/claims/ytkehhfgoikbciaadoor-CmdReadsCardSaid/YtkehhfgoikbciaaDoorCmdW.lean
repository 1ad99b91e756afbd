/- cmd.written: the bytes of fields, one behind the other. -/
import Derived.Test.YtkehhfgoikbciaaDoorCmd
import Derived.Test.YtkehhfgoikbciaaDoorCmdP
namespace Go.Proofs.YtkehhfgoikbciaaDoor
open Go.RowKit Go.WideShapes
set_option linter.unusedVariables false

/-- a field: where its bytes begin, how many, at which cell of the block its number lies -/
structure Fld where
  p : Nat
  L : Nat
  off : Nat
/-- n bytes behind the first k fields -/
def bytesAfter (n : Nat) (F : Nat → Fld) (X : Nat → Int) : Nat → List Int
  | 0 => List.replicate n 0
  | k + 1 => splice (bytesAfter n F X k) (F k).p (leDig (F k).L (X k))
theorem bytesAfter_length (n : Nat) (F : Nat → Fld) (X : Nat → Int) (m : Nat) (h : ∀ k, k < m → (F k).p + (F k).L ≤ n) : ∀ k, k ≤ m → (bytesAfter n F X k).length = n
  | 0, _ => by simp [bytesAfter]
  | k + 1, hk => by
    have ih := bytesAfter_length n F X m h k (by omega)
    have := h k (by omega)
    simp only [bytesAfter]
    rw [length_splice _ _ _ (by rw [leDig_length, ih]; exact this), ih]
def allFit (F : Nat → Fld) (X : Nat → Int) (m : Nat) : Prop := ∀ k, k < m → fits (F k).L (X k) = true

/-- what written tells -/
def WrittenPost (w : World) (n m : Nat) (F : Nat → Fld) (X : Nat → Int) (e : Ending) (w' : World) : Prop :=
  Below w.heap.size w w' ∧ ((allFit F X m ∧ ∃ g, w.heap.size ≤ g ∧ e = .returned (.tuple #[.slice (some ⟨g, 0, none⟩) n n, .nilIface]) ∧ Blk w' g ((bytesAfter n F X m).map (Value.int .u8)).toArray 5) ∨
    (¬ allFit F X m ∧ e = .returned (.tuple #[.slice none 0 0, cmdErr 1])))

theorem cell_lt' {w : World} {a : Addr} {v : Value} (h : w.cell? a = some v) : a.block < w.heap.size := by
  unfold World.cell? at h
  by_cases q : a.block < w.heap.size
  · exact q
  · rw [Array.getElem?_eq_none (by omega)] at h; cases h
theorem madeCells_u8' (n : Nat) : madeCells #[.int .u8 0] n = ((List.replicate n (0 : Int)).map (Value.int .u8)).toArray := by
  apply Array.toList_inj.1
  rw [toList_madeCells_one]
  simp

set_option maxRecDepth 100000 in
set_option maxHeartbeats 4000000 in
theorem cmd_written (n m lb lc vb : Nat) (F : Nat → Fld) (X : Nat → Int) (w : World) (hn : n ≤ 64) (hm : m ≤ 6) (hlb : lb < w.heap.size) (hvb : vb < w.heap.size)
    (hF : ∀ k, k < m → (F k).p + (F k).L ≤ n ∧ ((F k).L = 1 ∨ (F k).L = 2 ∨ (F k).L = 4 ∨ (F k).L = 8))
    (hX : ∀ k, k < m → -9223372036854775808 ≤ X k ∧ X k ≤ 9223372036854775807)
    (hl : ∀ k, k < m → w.cell? ⟨lb, k * 3, none⟩ = some (.int .i64 ((F k).p : Nat)) ∧ w.cell? ⟨lb, k * 3 + 1, none⟩ = some (.int .i64 ((F k).L : Nat)) ∧ w.cell? ⟨lb, k * 3 + 2, none⟩ = some (.pointer (some ⟨vb, (F k).off, none⟩)))
    (hv : ∀ k, k < m → w.cell? ⟨vb, (F k).off, none⟩ = some (.int .i64 (X k))) :
    Calls Tryd.prog 80 #[.int .i64 n, .slice (some ⟨lb, 0, none⟩) m lc] w (WrittenPost w n m F X) := by
  have hmk := fun (w : World) => run_make_row' (P := Tryd.prog) 66 5 (.int .u8 0) 1 Tryd.underlying66 (by kernel_rfl) rfl .i64 .i64 n (by omega) (by omega) w
  have HF := Lib.hid hF
  have HX := Lib.hid hX
  have Hl := Lib.hid hl
  have Hv := Lib.hid hv
  have Hlen := Lib.hid (bytesAfter_length n F X m (fun k hk => (hF k hk).1))
  clear hF hX hl hv
  go_enter Tryd.func80, Tryd.ntmps80
  go_wp2
  have st1 : Blk (w.alloc (.cells (madeCells #[.int .u8 0] n) 5)) w.heap.size ((bytesAfter n F X 0).map (Value.int .u8)).toArray 5 := (Blk.new _ _ _).of (madeCells_u8' n)
  have st2 : Below w.heap.size w (w.alloc (.cells (madeCells #[.int .u8 0] n) 5)) := (Below.refl _ _).alloc (Nat.le_refl _) _
  have St1 := Lib.hid st1
  have St2 := Lib.hid st2
  clear st1 st2
  go_loopw [13] (fun i wr => ∃ k : Nat, k ≤ m ∧ i = .int .i64 k ∧ allFit F X k ∧ Blk wr w.heap.size ((bytesAfter n F X k).map (Value.int .u8)).toArray 5 ∧ Below w.heap.size w wr) (fun i _ => m - (intOf i).toNat)
  case atStart => exact ⟨0, by omega, rfl, fun k hk => absurd hk (by omega), St1.out, St2.out⟩
  case round =>
    obtain ⟨k, hk, rfl, hfit, hb, hbe⟩ := hrel
    by_cases hlt : k < m
    · obtain ⟨l0, l1, l2⟩ := Hl.out k hlt
      have v0 := Hv.out k hlt
      have hx := HX.out k hlt
      obtain ⟨hFp, hFL⟩ := HF.out k hlt
      have hsplit : bytesAfter n F X (k + 1) = splice (bytesAfter n F X k) (F k).p (leDig (F k).L (X k)) := rfl
      have hfitk : fits (F k).L (X k) = true → allFit F X (k + 1) := fun h j hj => by
        by_cases e : j = k
        · subst e; exact h
        · exact hfit j (by omega)
      have hnfit : fits (F k).L (X k) = false → ¬ allFit F X m := fun h h' => by rw [h' k hlt] at h; cases h
      rw [← hbe.cell (p := ⟨lb, k * 3, none⟩) hlb] at l0
      rw [← hbe.cell (p := ⟨lb, k * 3 + 1, none⟩) hlb] at l1
      rw [← hbe.cell (p := ⟨lb, k * 3 + 2, none⟩) hlb] at l2
      rw [← hbe.cell (p := ⟨vb, (F k).off, none⟩) hvb] at v0
      have hlenk := Hlen.out k (by omega)
      have Hsp := Lib.hid hsplit
      have Hfk := Lib.hid hfitk
      have Hnf := Lib.hid hnfit
      have Hlk := Lib.hid hlenk
      clear hsplit hfitk hnfit hfit hlenk
      generalize (F k).p = pp at *
      generalize (F k).L = LL at *
      generalize (F k).off = oo at *
      generalize X k = xx at *
      generalize bytesAfter n F X k = bs at *
      have Hb := Lib.hid hb
      have Hbe := Lib.hid hbe
      have hsz := hbe.size
      have hgl := hb.lt
      clear hb hbe
      obtain ⟨hx0, hx1⟩ := hx
      go_wp2
      refine wp_still_tail 6 (by kernel_rfl) (by kernel_rfl) ?_
      intro W hW
      have hB1 : Blk W wr.heap.size #[.int .i64 (pp : Int), .int .i64 (LL : Int), .pointer (some ⟨vb, oo, none⟩)] 159 := by subst hW; exact (Blk.new _ _ _).drew
      have hB2 : Blk W w.heap.size (bs.map (Value.int .u8)).toArray 5 := by subst hW; exact (Hb.out.alloc _).drew
      have hB3 : Below w.heap.size w W := by subst hW; exact (Hbe.out.alloc hsz _).drew
      have hB4 : W.cell? ⟨vb, oo, none⟩ = some (.int .i64 xx) := by subst hW; rw [World.cell?_drew, World.cell?_alloc_past _ _ _ (by omega)]; exact v0
      have e0 : W.cell? ⟨wr.heap.size, 0, none⟩ = some (.int .i64 (pp : Int)) := hB1.cell 0
      have e1 : W.cell? ⟨wr.heap.size, 1, none⟩ = some (.int .i64 (LL : Int)) := hB1.cell 1
      have e2 : W.cell? ⟨wr.heap.size, 2, none⟩ = some (.pointer (some ⟨vb, oo, none⟩)) := hB1.cell 2
      have hwne : wr.heap.size ≠ w.heap.size := by omega
      have HB1 := Lib.hid hB1
      have HB2 := Lib.hid hB2
      have HB3 := Lib.hid hB3
      clear hW hB1 hB2 hB3 l0 l1 l2 v0
      simp only [List.take_succ_cons, List.take_zero, List.drop_succ_cons, List.drop_zero]
      iterate 6 still_step
      refine wpStill_nil ?_
      go_wp2_with fail
      refine (cmd_within pp LL xx _ hFL hx0 hx1).mono ?_
      rintro e w5 ⟨rfl, hw5⟩
      have e0' : w5.cell? ⟨wr.heap.size, 0, none⟩ = some (.int .i64 (pp : Int)) := by rw [hw5.cell (p := ⟨wr.heap.size, 0, none⟩) HB1.out.lt]; exact e0
      have e1' : w5.cell? ⟨wr.heap.size, 1, none⟩ = some (.int .i64 (LL : Int)) := by rw [hw5.cell (p := ⟨wr.heap.size, 1, none⟩) HB1.out.lt]; exact e1
      have e2' : w5.cell? ⟨wr.heap.size, 2, none⟩ = some (.pointer (some ⟨vb, oo, none⟩)) := by rw [hw5.cell (p := ⟨wr.heap.size, 2, none⟩) HB1.out.lt]; exact e2
      have v0' : w5.cell? ⟨vb, oo, none⟩ = some (.int .i64 xx) := by rw [hw5.cell (p := ⟨vb, oo, none⟩) (cell_lt' hB4)]; exact hB4
      have hK5 : Keep (fun _ => False) W w5 := Keep.ofBelow hw5 (fun k h1 h2 => absurd h1 (by omega))
      have hb5 : Blk w5 w.heap.size (bs.map (Value.int .u8)).toArray 5 := hK5.blk HB2.out (fun h => h)
      have hbe5 : Below w.heap.size w w5 := HB3.out.trans (hw5.mono HB3.out.size)
      have Hb5 := Lib.hid hb5
      have Hbe5 := Lib.hid hbe5
      have hsz5 := hbe5.size
      have hlt5 := hb5.lt
      clear hw5 hK5 hb5 hbe5 e0 e1 e2 hB4
      cases hfx : fits LL xx with
      | false =>
        have Hno := Lib.hid (Hnf.out hfx)
        clear hfx
        go_wp2
        go_ret2
        exact ⟨Hbe5.out, .inr ⟨Hno.out, rfl⟩⟩
      | true =>
        have Hyes := Lib.hid (Hfk.out hfx)
        have hxnn : 0 ≤ xx := by unfold fits at hfx; simp at hfx; omega
        clear hfx
        go_wp2
        refine wp_still_tail 7 (by kernel_rfl) (by kernel_rfl) ?_
        intro W2 hW
        have d0 : W2.cell? ⟨wr.heap.size, 0, none⟩ = some (.int .i64 (pp : Int)) := by subst hW; exact e0'
        have d1 : W2.cell? ⟨wr.heap.size, 1, none⟩ = some (.int .i64 (LL : Int)) := by subst hW; exact e1'
        have d2 : W2.cell? ⟨wr.heap.size, 2, none⟩ = some (.pointer (some ⟨vb, oo, none⟩)) := by subst hW; exact e2'
        have d3 : W2.cell? ⟨vb, oo, none⟩ = some (.int .i64 xx) := by subst hW; exact v0'
        have hb6 : Blk W2 w.heap.size (bs.map (Value.int .u8)).toArray 5 := by subst hW; exact Hb5.out
        have hbe6 : Below w.heap.size w W2 := by subst hW; exact Hbe5.out.drew
        have Hb6 := Lib.hid hb6
        have Hbe6 := Lib.hid hbe6
        clear hW hb6 hbe6 e0' e1' e2' v0'
        simp only [List.take_succ_cons, List.take_zero, List.drop_succ_cons, List.drop_zero]
        iterate 7 still_step
        refine wpStill_nil ?_
        go_wp2_with fail
        refine (cmd_put pp LL w.heap.size n n bs xx _ (by omega) hFp hn Hb6.out Hlk.out hxnn hx1).mono ?_
        rintro e w7 ⟨rfl, hb7, hk7⟩
        rw [← Hsp.out] at hb7
        have hbe7 : Below w.heap.size w w7 := Hbe6.out.trans (hk7.below w.heap.size Hbe6.out.size (fun k e => by omega))
        have Hb7 := Lib.hid hb7
        have Hbe7 := Lib.hid hbe7
        clear hb7 hbe7 hk7
        go_wp2
        go_roundw
        case rel => exact ⟨k + 1, by omega, by go_num, Hyes.out, Hb7.out, Hbe7.out⟩
        case measure => simp [intOf]; omega
    · obtain rfl : k = m := by omega
      go_wp2
      go_ret2
      exact ⟨hbe, .inl ⟨hfit, _, Nat.le_refl _, rfl, hb⟩⟩
end Go.Proofs.YtkehhfgoikbciaaDoor
