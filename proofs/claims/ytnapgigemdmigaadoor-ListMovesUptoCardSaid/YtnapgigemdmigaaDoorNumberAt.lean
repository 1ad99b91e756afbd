/- granaryref2.NumberAt. -/
import Derived.Test.YtnapgigemdmigaaDoorFits
import Derived.Test.YtnapgigemdmigaaDoorBytesEq
import Derived.Test.YtnapgigemdmigaaDoorBase2
import Derived.IntWalk
namespace Go.Proofs.YtnapgigemdmigaaDoor
open Go.RowKit
set_option linter.unusedVariables false

theorem leNum_drop (ys : List Int) (h : ∀ x ∈ ys, 0 ≤ x ∧ x ≤ 255) : ∀ j, 256 ^ j * leNum (ys.drop j) ≤ leNum ys := by
  induction ys with
  | nil => intro j; simp [leNum]
  | cons a l ih =>
    intro j
    cases j with
    | zero => simp
    | succ j =>
      have := ih (fun x hx => h x (List.mem_cons_of_mem _ hx)) j
      have ha := (h a (List.mem_cons_self ..)).1
      rw [List.drop_succ_cons, Int.pow_succ]
      simp only [leNum]
      rw [Int.mul_comm (256 ^ j) 256, Int.mul_assoc]
      omega
theorem leNum_step (ys : List Int) (j : Nat) (h : j < ys.length) : leNum (ys.drop j) = ys.getD j 0 + 256 * leNum (ys.drop (j + 1)) := by
  rw [List.drop_eq_getElem_cons h]
  simp [leNum, List.getD, h]

set_option maxRecDepth 100000 in
set_option maxHeartbeats 4000000 in
theorem ref_numberAt (bb off c : Nat) (ys : List Int) (w : World) (hl : ys.length = 8) (hb : ∀ x ∈ ys, 0 ≤ x ∧ x ≤ 255) (hc : ∀ i, i < 8 → w.cell? ⟨bb, off + i, none⟩ = some (.int .u8 (ys.getD i 0))) :
    Calls Tryd.prog 47 #[.slice (some ⟨bb, off, none⟩) 8 c] w fun e w' => e = .returned (.tuple #[.int .i64 (if numOk ys then leNum ys else 0), .bool (numOk ys)]) ∧ w = w' := by
  have Hb := Lib.hid hb
  have Hc := Lib.hid hc
  clear hb hc
  have hd8 : leNum (ys.drop 8) = 0 := by rw [List.drop_of_length_le (by omega)]; rfl
  have Hd8 := Lib.hid hd8
  clear hd8
  obtain ⟨r, hr⟩ : ∃ r, r = (if numOk ys then leNum ys else 0) := ⟨_, rfl⟩
  obtain ⟨ok, hk⟩ : ∃ ok, ok = numOk ys := ⟨_, rfl⟩
  rw [← hr, ← hk]
  rw [← hk] at hr
  have HR := Lib.hid hr
  have HK := Lib.hid hk
  clear hr hk
  go_enter Tryd.func47, Tryd.ntmps47
  go_wp2
  go_loop [4, 5] (fun x i => ∃ k : Nat, k ≤ 8 ∧ i = .int .i64 ((k : Int) - 1) ∧ x = .int .i64 (leNum (ys.drop k))) (fun _ i => (intOf i + 1).toNat)
  case atStart => exact ⟨8, by omega, rfl, by rw [Hd8.out]⟩
  case round =>
    obtain ⟨k, hk, rfl, rfl⟩ := hrel
    have hx0 := (leNum_bd (ys.drop k) (fun x hx => Hb.out x (List.mem_of_mem_drop hx))).1
    have hx1 := leNum_drop ys Hb.out k
    have HN := Lib.hid hx1
    clear hx1
    by_cases h0 : k = 0
    · subst h0
      have e0 : leNum (ys.drop 0) = leNum ys := by simp
      rw [e0] at hx0 ⊢
      clear HN e0
      by_cases hok : leNum ys ≤ 4611686018427387904
      · have hn : numOk ys = true := decide_eq_true hok
        have HO := Lib.hid hn
        have d1 : decide (leNum ys < 0) = false := decide_eq_false (by omega)
        have d2 : decide (4611686018427387904 < leNum ys) = false := decide_eq_false (by omega)
        clear hn
        go_wp2
        go_ret2
        refine ⟨?_, rfl⟩
        rw [HR.out, HK.out, HO.out]
        rfl
      · have hn : numOk ys = false := decide_eq_false hok
        have HO := Lib.hid hn
        have d1 : decide (leNum ys < 0) = false := decide_eq_false (by omega)
        have d2 : decide (4611686018427387904 < leNum ys) = true := decide_eq_true (by omega)
        clear hn
        go_wp2
        go_ret2
        refine ⟨?_, rfl⟩
        rw [HR.out, HK.out, HO.out]
        rfl
    · obtain ⟨j, rfl⟩ : ∃ j, k = j + 1 := ⟨k - 1, by omega⟩
      have hst := leNum_step ys j (by omega)
      have HST := Lib.hid hst
      have hcj := Hc.out j (by omega)
      have hbj : 0 ≤ ys.getD j 0 ∧ ys.getD j 0 ≤ 255 := by
        have : ys.getD j 0 ∈ ys := by simp [List.getD, show j < ys.length by omega]
        exact Hb.out _ this
      clear hst
      generalize leNum (ys.drop (j + 1)) = X at *
      by_cases hbig : 18014398509481984 < X
      · have hn : numOk ys = false := by
          refine decide_eq_false (fun hle => ?_)
          have h1 := HN.out
          have h2 : (1 : Int) ≤ 256 ^ j := by have := pow256_pos j; omega
          have h3 : 1 * (256 * X) ≤ 256 ^ j * (256 * X) := Int.mul_le_mul_of_nonneg_right h2 (by omega)
          rw [Int.pow_succ, Int.mul_assoc] at h1
          omega
        have HO := Lib.hid hn
        have d1 : decide (18014398509481984 < X) = true := decide_eq_true hbig
        clear hn
        go_wp2
        go_ret2
        refine ⟨?_, rfl⟩
        rw [HR.out, HK.out, HO.out]
        rfl
      · have d1 : decide (18014398509481984 < X) = false := decide_eq_false hbig
        generalize ys.getD j 0 = y at *
        go_wp2
        go_round
        case rel => exact ⟨j, by omega, by go_num, by rw [HST.out]; go_num⟩
        case measure => simp [intOf]

theorem num_sub (bb off p c : Nat) (bs : List Int) (w : World) (hp : p + 8 ≤ bs.length) (hb : ∀ x ∈ bs, 0 ≤ x ∧ x ≤ 255) (hc : ∀ i, i < bs.length → w.cell? ⟨bb, off + i, none⟩ = some (.int .u8 (bs.getD i 0))) :
    Calls Tryd.prog 47 #[.slice (some ⟨bb, off + p, none⟩) 8 c] w fun e w' => e = .returned (.tuple #[.int .i64 (if numOk ((bs.drop p).take 8) then leNum ((bs.drop p).take 8) else 0), .bool (numOk ((bs.drop p).take 8))]) ∧ w = w' := by
  refine ref_numberAt bb (off + p) c _ w (by simp; omega) (fun x hx => hb x (List.mem_of_mem_drop (List.mem_of_mem_take hx))) (fun i hi => ?_)
  have := hc (p + i) (by omega)
  rw [Nat.add_assoc, this]
  simp [List.getD, List.getElem?_drop, hi]
end Go.Proofs.YtnapgigemdmigaaDoor
