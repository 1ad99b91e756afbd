/- cmd.field.get: a number out of its digits. -/
import Derived.Test.YtkehhfgoikbciaaDoorCmdA
import Derived.Test.YtkehhfgoikbciaaDoorCmd
namespace Go.Proofs.YtkehhfgoikbciaaDoor
open Go.RowKit Go.WideShapes
set_option linter.unusedVariables false

set_option maxRecDepth 100000 in
set_option maxHeartbeats 4000000 in
theorem cmd_get (p L bb off n c : Nat) (bs : List Int) (w : World) (hL : L ≤ 8) (hp : p + L ≤ n) (hn : n ≤ 64) (hbs : bs.length = n) (hbyte : ∀ x ∈ bs, 0 ≤ x ∧ x ≤ 255) (hbl : bb < w.heap.size)
    (hc : ∀ i, i < n → w.cell? ⟨bb, off + i, none⟩ = some (.int .u8 (bs.getD i 0))) :
    Calls Tryd.prog 83 #[.agg #[.int .i64 p, .int .i64 L], .slice (some ⟨bb, off, none⟩) n c] w fun e w' => e = .returned (.int .u64 (leNum ((bs.drop p).take L))) ∧ w.alloc (.cells #[.int .i64 p, .int .i64 L] 156) = w' := by
  obtain ⟨ys, hys⟩ : ∃ ys, ys = (bs.drop p).take L := ⟨_, rfl⟩
  have hl : ys.length = L := by subst hys; simp; omega
  have hyb : ∀ x ∈ ys, 0 ≤ x ∧ x ≤ 255 := fun x hx => by subst hys; exact hbyte x (List.mem_of_mem_drop (List.mem_of_mem_take hx))
  have hyc : ∀ k, k < L → w.cell? ⟨bb, off + (p + k), none⟩ = some (.int .u8 (ys.getD k 0)) := by
    intro k hk
    rw [hc (p + k) (by omega)]
    subst hys
    simp [List.getD, hk]
  rw [← hys]
  have Hl := Lib.hid hl
  have Hy := Lib.hid hyb
  have Hc := Lib.hid hyc
  clear hc hbyte hys hl hyb hyc
  go_enter Tryd.func83, Tryd.ntmps83
  go_wp2
  obtain ⟨W, hW⟩ : ∃ W, W = w.alloc (.cells #[.int .i64 (p : Int), .int .i64 (L : Int)] 156) := ⟨_, rfl⟩
  have HW := Lib.hid hW
  rw [← hW]
  have d0 : W.cell? ⟨w.heap.size, 0, none⟩ = some (.int .i64 (p : Int)) := by subst hW; simp
  have hcc : ∀ k, k < L → W.cell? ⟨bb, off + (p + k), none⟩ = some (.int .u8 (ys.getD k 0)) := by
    intro k hk; subst hW; rw [World.cell?_alloc_past _ _ _ (by omega)]; exact Hc.out k hk
  have Hcc := Lib.hid hcc
  clear hW hcc
  go_loop [5, 9] (fun x i => ∃ k : Nat, k ≤ L ∧ i = .int .i64 k ∧ x = .int .u64 (leNum (ys.take k))) (fun _ i => L - (intOf i).toNat)
  case atStart => exact ⟨0, by omega, rfl, rfl⟩
  case round =>
    obtain ⟨k, hk, rfl, rfl⟩ := hrel
    by_cases hlt : k < L
    · have cc := Hcc.out k hlt
      have hbd := leNum_bd (ys.take k) (fun x hx => Hy.out x (List.mem_of_mem_take hx))
      have hkl : k < ys.length := by rw [Hl.out]; exact hlt
      have hsn : leNum (ys.take (k + 1)) = leNum (ys.take k) + 256 ^ k * ys.getD k 0 := by
        have e : ys.take (k + 1) = ys.take k ++ [ys.getD k 0] := by
          rw [List.take_succ_eq_append_getElem hkl]; simp [List.getD, List.getElem?_eq_getElem hkl]
        rw [e, leNum_snoc]; simp [Nat.min_eq_left (Nat.le_of_lt hkl)]
      have hv : 0 ≤ ys.getD k 0 ∧ ys.getD k 0 ≤ 255 := by
        have e : ys.getD k 0 = ys[k] := by simp [List.getD, List.getElem?_eq_getElem hkl]
        rw [e]; exact Hy.out _ (List.getElem_mem _)
      have hkl2 : (ys.take k).length = k := by simp [Hl.out]; omega
      rw [hkl2] at hbd
      have Hsn := Lib.hid hsn
      clear hsn hkl hkl2
      generalize ys.getD k 0 = v at *
      generalize leNum (ys.take k) = X at *
      obtain ⟨v0, v1⟩ := hv
      obtain ⟨x0, x1⟩ := hbd
      have hpk : (p : Int) + k < n := by omega
      go_wp2
      go_round
      case rel => exact ⟨k + 1, by omega, by go_num, by rw [or_shift k X v (by omega) x0 x1 v0 v1, Hsn.out]⟩
      case measure => simp [intOf]; omega
    · obtain rfl : k = L := by omega
      have e : ys.take k = ys := List.take_of_length_le (by rw [Hl.out]; exact Nat.le_refl _)
      rw [e]
      clear e
      go_wp2
      go_ret
      exact ⟨rfl, HW.out.symm⟩
end Go.Proofs.YtkehhfgoikbciaaDoor
