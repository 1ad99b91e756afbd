/- granarylaw3.MemNumbers returns true, and writes nothing that was there. -/
import Derived.Test.YtlcjikeolfebnaaMemN
import Derived.Test.YtlcjikeolfebnaaRd
namespace Go.Proofs.Ytlcjikeolfebnaa
open Go.RowKit Go.WideShapes
set_option linter.unusedVariables false

theorem splice_mid (bs ds : List Int) (p : Nat) (h : p + ds.length ≤ bs.length) : ((splice bs p ds).drop p).take ds.length = ds := by
  unfold splice
  have e : (bs.take p).length = p := by simp; omega
  rw [List.drop_append_of_le_length (by omega), List.drop_of_length_le (by omega)]
  simp

theorem leNum_zero : ∀ (l : List Int), (∀ y ∈ l, y = 0) → leNum l = 0
  | [], _ => rfl
  | a :: l, h => by
    have h1 := h a (List.mem_cons_self ..)
    have h2 := leNum_zero l (fun y hy => h y (List.mem_cons_of_mem _ hy))
    simp only [leNum]; omega

set_option maxRecDepth 100000 in
set_option maxHeartbeats 2000000 in
theorem memNumbers_walk (w : World) (n : Int) (n0 : -9223372036854775808 ≤ n) (n1 : n ≤ 9223372036854775807) (p : Int) (p0 : -9223372036854775808 ≤ p) (p1 : p ≤ 9223372036854775807)
    (x : Int) (x0 : -9223372036854775808 ≤ x) (x1 : x ≤ 9223372036854775807) :
    Calls Try.prog 6 #[.int .i64 n, .int .i64 p, .int .i64 x] w fun e w' => e = .returned (.bool true) ∧ Below w.heap.size w w' := by
  by_cases hbad : n < 0 ∨ 16384 < n
  · have Hb := Lib.hid hbad
    have hB : (decide (n < 0) || decide (16384 < n)) = true := by simp; omega
    have HB := Lib.hid hB
    clear hbad hB
    go_enter Try.func6, Try.ntmps6
    go_wp2_with fail
    refine (mem_new_bad _ _ Hb.out).mono ?_
    rintro e w' ⟨rfl, rfl⟩
    unfold memRangeErr
    go_wp2
    all_goals (go_ret; refine ⟨?_, Below.refl _ _⟩)
    all_goals (have := HB.out; simp_all)
  obtain ⟨n, rfl⟩ := Int.eq_ofNat_of_zero_le (show 0 ≤ n by omega)
  have hn : n ≤ 16384 := by omega
  clear hbad n0 n1
  go_enter Try.func6, Try.ntmps6
  go_wp2_with fail
  refine (mem_new_ok _ _ hn).mono ?_
  rintro e w1 ⟨rfl, hm, hw⟩
  generalize hb : w.heap.size + 1 = b at hm ⊢
  have hB : w.heap.size ≤ b := by omega
  generalize hmb : w.heap.size = mb at hm
  have hMB : w.heap.size ≤ mb := by omega
  clear hb hmb
  have hlen : (List.replicate n (0 : Int)).length = n := by simp
  have hz : ∀ y ∈ List.replicate n (0 : Int), y = 0 := fun y hy => List.eq_of_mem_replicate hy
  generalize List.replicate n (0 : Int) = bs at hm hlen hz
  have Hz := Lib.hid hz
  clear hz
  by_cases hbad : x < 0 ∨ 4611686018427387904 < x ∨ p < 0 ∨ (bs.length : Int) - 8 < p
  · go_wp2_with fail
    refine (mem_set_bad b mb bs p x _ hm p0 p1 x0 x1 hbad).mono ?_
    rintro e w' ⟨rfl, rfl⟩
    unfold memRangeErr
    by_cases hp : p < 0 ∨ (bs.length : Int) - 8 < p
    · go_wp2_with fail
      refine (mem_number_bad b mb bs p _ hm p0 p1 hp).mono ?_
      rintro e w' ⟨rfl, rfl⟩
      unfold memRangeErr
      go_wp2
      go_ret
      exact ⟨rfl, hw⟩
    · obtain ⟨p, rfl⟩ := Int.eq_ofNat_of_zero_le (show 0 ≤ p by omega)
      go_wp2_with fail
      refine (mem_number_core b mb bs p _ hm (by omega) _ rfl).mono ?_
      rintro e w' ⟨he, rfl⟩
      have e0 : leNum ((bs.drop p).take 8) = 0 := leNum_zero _ (fun y hy => Hz.out y (List.mem_of_mem_drop (List.mem_of_mem_take hy)))
      unfold NumRes at he
      rw [e0, if_pos (by omega)] at he
      subst he
      clear e0
      go_wp2
      go_ret
      exact ⟨rfl, hw⟩
  · obtain ⟨p, rfl⟩ := Int.eq_ofNat_of_zero_le (show 0 ≤ p by omega)
    have hp8 : p + 8 ≤ bs.length := by omega
    have y0 : 0 ≤ x := by omega
    have y1 : x ≤ 4611686018427387904 := by omega
    clear hbad
    go_wp2_with fail
    refine (mem_set_ok b mb bs p x _ hm hp8 y0 y1).mono ?_
    rintro e w2 ⟨rfl, hm2, hk2⟩
    have hw2 : Below w.heap.size w w2 := hw.trans (hk2.below w.heap.size hw.size (fun k e => by omega))
    have hl2 : (splice bs p (leDig 8 x)).length = bs.length := length_splice _ _ _ (by simp [leDig_length]; omega)
    have hmid := splice_mid bs (leDig 8 x) p (by simp [leDig_length]; omega)
    rw [leDig_length] at hmid
    have hnum : leNum (leDig 8 x) = x := leNum_dig 8 x y0 (by have : (256 : Int) ^ 8 = 18446744073709551616 := rfl; omega)
    clear hm hk2 hw
    go_wp2_with fail
    refine (mem_number_core b mb _ p _ hm2 (by omega) _ hmid.symm).mono ?_
    rintro e w' ⟨he, rfl⟩
    unfold NumRes at he
    rw [hnum, if_pos y1] at he
    subst he
    clear hnum
    go_wp2_with fail
    refine (mem_read_ok b mb _ p 8 _ hm2 (by omega)).mono ?_
    rintro e w3 ⟨g, cap, rfl, hown, hw3⟩
    rw [hmid] at hown
    have hw4 := hw2.trans (hw3.mono hw2.size)
    have hcell := fun k (hk : k < 8) => hown.cellAt k (by omega)
    have hdg := fun k (hk : k < 8) => leDig_getD 8 x k hk
    have hpow : ∀ k : Nat, 0 ≤ x / 256 ^ k ∧ x / 256 ^ k ≤ x := fun k => ⟨Int.ediv_nonneg y0 (Int.le_of_lt (pow256_pos k)), Int.ediv_le_self _ y0⟩
    have Hcell := Lib.hid hcell
    have Hdg := Lib.hid hdg
    have Hpow := Lib.hid hpow
    have Hown := Lib.hid hown
    clear hcell hdg hpow hown hmid
    go_wp2_with fail
    go_loop [2, 14] (fun y i => ∃ k : Nat, k ≤ 8 ∧ i = .int .i64 k ∧ y = .int .i64 (x / 256 ^ k)) (fun _ i => 8 - (intOf i).toNat)
    case atStart => exact ⟨0, by omega, rfl, by simp⟩
    case round =>
      obtain ⟨k, hk, rfl, rfl⟩ := hrel
      by_cases hlt : k < 8
      · have c := Hcell.out k hlt
        have d := Hdg.out k hlt
        have q := Hpow.out k
        have c' : w3.cell? ⟨g, k, none⟩ = some (.int .u8 (x / 256 ^ k % 256)) := by
          rw [c, ← d]
          simp [List.getD, List.getElem?_eq_getElem (show k < (leDig 8 x).length by rw [leDig_length]; exact hlt)]
        have hnext : x / 256 ^ (k + 1) = x / 256 ^ k / 256 := by rw [Int.pow_succ, Int.ediv_ediv_of_nonneg (Int.le_of_lt (pow256_pos k))]
        have Hn := Lib.hid hnext
        clear c d hnext
        generalize x / 256 ^ k = y at *
        obtain ⟨q0, q1⟩ := q
        have q2 : y ≤ 4611686018427387904 := by omega
        go_wp2
        go_round
        case rel => exact ⟨k + 1, by omega, by go_num, by rw [Hn.out]⟩
        case measure => simp [intOf]; omega
      · obtain rfl : k = 8 := by omega
        go_wp2
        go_ret
        exact ⟨rfl, hw4⟩
end Go.Proofs.Ytlcjikeolfebnaa
