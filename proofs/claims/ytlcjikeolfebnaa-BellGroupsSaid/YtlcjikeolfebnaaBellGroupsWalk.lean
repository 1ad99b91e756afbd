/- granarylaw3.BellGroups returns true, and writes nothing that was there. -/
import Derived.Test.YtlcjikeolfebnaaBell
import Derived.Test.YtlcjikeolfebnaaPick
import Derived.Lib.Hide
namespace Go.Proofs.Ytlcjikeolfebnaa
open Go.RowKit
set_option linter.unusedVariables false

/-- the bell behind k posts alone -/
def grp (l d k : Int) : BS := if d = 0 then ⟨l, d, 0, 0, k, false⟩ else ⟨l, d, k % l, 0, k / l, false⟩
theorem grp_0 (l d : Int) : grp l d 0 = ⟨l, d, 0, 0, 0, false⟩ := by unfold grp; split <;> simp
theorem grp_post (l d k : Int) (h1 : 1 ≤ l) (h2 : 0 ≤ d) (h3 : 0 ≤ k) : (grp l d k).post = grp l d (k + 1) := by
  unfold grp
  by_cases hd : d = 0
  · subst hd; simp [BS.post, BS.rung]
  · rw [if_neg hd, if_neg hd]
    have m0 := Int.emod_nonneg k (show l ≠ 0 by omega)
    have m1 := Int.emod_lt_of_pos k (show 0 < l by omega)
    have e := Int.mul_ediv_add_emod k l
    simp only [BS.post, BS.rung]
    by_cases hl : l ≤ k % l + 1
    · rw [if_pos (by simp; omega)]
      have hk : k + 1 = (k / l + 1) * l := by rw [Int.add_mul, Int.mul_comm]; omega
      have q1 : (k + 1) % l = 0 := by rw [hk, Int.mul_emod_left]
      have q2 : (k + 1) / l = k / l + 1 := by rw [hk, Int.mul_ediv_cancel _ (by omega)]
      rw [q1, q2]
    · rw [if_neg (by simp; omega)]
      have hk : k + 1 = (k % l + 1) + k / l * l := by rw [Int.mul_comm]; omega
      have q0 : ((k % l + 1) + k / l * l) % l = k % l + 1 := by
        rw [Int.add_mul_emod_self_right, Int.emod_eq_of_lt (by omega) (by omega)]
      have q1 : (k + 1) % l = k % l + 1 := by rw [← q0, ← hk]
      have q3 : ((k % l + 1) + k / l * l) / l = k / l := by
        rw [Int.add_mul_ediv_right _ _ (by omega), Int.ediv_eq_zero_of_lt (by omega) (by omega)]; simp
      have q2 : (k + 1) / l = k / l := by rw [← hk] at q3; exact q3
      rw [q1, q2]
theorem grp_small (l d k : Int) (h1 : 1 ≤ l) (h3 : 0 ≤ k) (h4 : k ≤ 1000) : (grp l d k).small := by
  have m0 := Int.emod_nonneg k (show l ≠ 0 by omega)
  have m1 := Int.emod_lt_of_pos k (show 0 < l by omega)
  have d0 := Int.ediv_nonneg h3 (show 0 ≤ l by omega)
  have d1 := Int.ediv_le_self l h3
  have m2 : k % l ≤ k := by have := Int.mul_nonneg (show 0 ≤ l by omega) d0; have := Int.mul_ediv_add_emod k l; omega
  unfold grp
  split <;> constructor <;> simp only <;> omega

set_option maxRecDepth 100000 in
set_option maxHeartbeats 1000000 in
theorem bellGroups_walk (w : World) (l : Int) (hl0 : -9223372036854775808 ≤ l) (hl1 : l ≤ 9223372036854775807) (d : Int) (hd0 : -9223372036854775808 ≤ d) (hd1 : d ≤ 9223372036854775807)
    (x : Int) (hx0 : -9223372036854775808 ≤ x) (hx1 : x ≤ 9223372036854775807) :
    Calls Try.prog 3 #[.int .i64 l, .int .i64 d, .int .i64 x] w fun e w' => e = .returned (.bool true) ∧ Below w.heap.size w w' := by
  by_cases hbad : l < 1 ∨ 64 < l ∨ d < 0 ∨ 1000 < d
  · have Hb := Lib.hid hbad
    have hB : (decide (l < 1) || decide (64 < l) || decide (d < 0) || decide (1000 < d)) = true := by simp; omega
    have HB := Lib.hid hB
    clear hbad hB
    go_enter Try.func3, Try.ntmps3
    go_wp2_with fail
    refine (bell_new_bad _ _ _ Hb.out).mono ?_
    rintro e w' ⟨rfl, rfl⟩
    unfold rangeErr
    go_wp2
    all_goals (go_ret; refine ⟨?_, Below.refl _ _⟩)
    all_goals (have := HB.out; simp_all)
  · have h1 : 1 ≤ l := by omega
    have h2 : l ≤ 64 := by omega
    have h3 : 0 ≤ d := by omega
    have h4 : d ≤ 1000 := by omega
    clear hbad
    have p0 := pickOf_0 x 500 (by omega)
    have p1 := pickOf_lt x 500 (by omega)
    generalize hn : pickOf x 500 = n at p0 p1
    have Hn := Lib.hid hn
    clear hn
    obtain ⟨n, rfl⟩ := Int.eq_ofNat_of_zero_le p0
    go_enter Try.func3, Try.ntmps3
    go_wp2_with fail
    refine (bell_new_ok _ _ _ h1 h2 h3 h4).mono ?_
    rintro e w' ⟨rfl, rfl⟩
    go_wp2_with fail
    refine (pick_any _ _ _ hx0 hx1 (by omega) (by omega)).mono ?_
    rintro e w' ⟨rfl, rfl⟩
    rw [Hn.out]
    go_wp2_with fail
    have hb0 := Blk.new w (BS.cells ⟨l, d, 0, 0, 0, false⟩) 90
    rw [← grp_0] at hb0 ⊢
    have hbel := (Below.refl w.heap.size w).alloc (Nat.le_refl _) (.cells (grp l d 0).cells 90 (0, 0))
    go_loopw [10] (fun i wr => ∃ k : Nat, k ≤ n ∧ i = .int .i64 k ∧ Blk wr w.heap.size (grp l d k).cells 90 ∧ Below w.heap.size w wr) (fun i _ => n - (intOf i).toNat)
    case atStart => exact ⟨0, Nat.zero_le _, rfl, hb0, hbel⟩
    case round =>
      obtain ⟨k, hk, rfl, hb, hbe⟩ := hrel
      by_cases hlt : k < n
      · go_wp2_with fail
        refine (bell_post _ (grp l d k) _ hb (grp_small l d k h1 (by omega) (by omega))).mono ?_
        rintro e w1 ⟨rfl, hb1, hk1⟩
        rw [grp_post _ _ _ h1 h3 (by omega)] at hb1
        have hbe1 : Below w.heap.size w w1 := hbe.trans (hk1.below w.heap.size hbe.size (fun k e => by omega))
        go_wp2
        go_roundw
        case rel => exact ⟨k + 1, by omega, by go_num, hb1, hbe1⟩
        case measure => simp [intOf]; omega
      · obtain rfl : k = n := by omega
        clear hlt hk
        by_cases hd : d = 0
        · have e : grp l d k = ⟨l, d, 0, 0, k, false⟩ := if_pos hd
          rw [e] at hb
          clear e
          have hd1 : (d == 0) = true := by simpa using hd
          have Hd := Lib.hid hd
          clear hd
          go_wp2_with fail
          refine (bell_rings _ _ _ hb).mono ?_
          rintro e w' ⟨rfl, rfl⟩
          go_wp2_with fail
          refine (bell_waits _ _ _ hb).mono ?_
          rintro e w' ⟨rfl, rfl⟩
          go_wp2
          go_ret
          exact ⟨ret_bool (by simp), hbe⟩
        · have e : grp l d k = ⟨l, d, k % l, 0, k / l, false⟩ := if_neg hd
          rw [e] at hb
          clear e
          have hd1 : (d == 0) = false := by simpa using hd
          clear hd
          generalize hq : (k : Int) / l = q at hb
          generalize hr : (k : Int) % l = r at hb
          have q0 := Int.ediv_nonneg (show (0 : Int) ≤ k by omega) (show 0 ≤ l by omega)
          have q1 := Int.ediv_le_self l (show (0 : Int) ≤ k by omega)
          have q2 : (k : Int) / l ≤ 500 := by omega
          have e : wrap64 ((k : Int) / l) = (k : Int) / l := IntWalk.wrap64_in _ (by omega)
          have Hq : (q == wrap64 ((k : Int) / l)) = true := by rw [e]; simp [hq]
          clear e q0 q1 q2
          have Hr : (r == (k : Int) % l) = true := by simp [hr]
          clear hq hr
          go_wp2_with fail
          refine (bell_rings _ _ _ hb).mono ?_
          rintro e w' ⟨rfl, rfl⟩
          go_wp2_with fail
          refine (bell_waits _ _ _ hb).mono ?_
          rintro e w' ⟨rfl, rfl⟩
          clear hb
          go_wp2
          go_ret
          exact ⟨ret_bool (by simp), hbe⟩
end Go.Proofs.Ytlcjikeolfebnaa
