/- granarylaw3.MemApart returns true, and writes nothing that was there. -/
import Derived.Test.YtlcjikeolfebnaaBytes
namespace Go.Proofs.Ytlcjikeolfebnaa
open Go.RowKit Go.WideShapes
set_option linter.unusedVariables false

set_option maxRecDepth 100000 in
set_option maxHeartbeats 2000000 in
theorem memApart_walk (w : World) (n : Int) (n0 : -9223372036854775808 ≤ n) (n1 : n ≤ 9223372036854775807) (p : Int) (p0 : -9223372036854775808 ≤ p) (p1 : p ≤ 9223372036854775807)
    (a : Option Addr) (len cap : Nat) (z : List Int) (hz : IsRow .u8 1 w a len cap z) (q : Int) (q0 : -9223372036854775808 ≤ q) (q1 : q ≤ 9223372036854775807)
    (a' : Option Addr) (len' cap' : Nat) (z' : List Int) (hz' : IsRow .u8 1 w a' len' cap' z') :
    Calls Try.prog 5 #[.int .i64 n, .int .i64 p, .slice a len cap, .int .i64 q, .slice a' len' cap'] w fun e w' => e = .returned (.bool true) ∧ Below w.heap.size w w' := by
  obtain ⟨xs, rfl, xl, xb, hx⟩ := hz.bytes
  obtain ⟨ys, rfl, yl, yb, hy⟩ := hz'.bytes
  clear hz hz'
  have Xb := Lib.hid xb
  have Yb := Lib.hid yb
  have Hx := Lib.hid hx
  have Hy := Lib.hid hy
  clear xb yb hx hy
  by_cases hbad : n < 0 ∨ 16384 < n
  · have Hb := Lib.hid hbad
    have hB : (decide (n < 0) || decide (16384 < n)) = true := by simp; omega
    have HB := Lib.hid hB
    clear hbad hB
    go_enter Try.func5, Try.ntmps5
    go_wp2_with fail
    refine (mem_new_bad _ _ Hb.out).mono ?_
    rintro e w' ⟨rfl, rfl⟩
    unfold memRangeErr
    go_wp2
    all_goals (go_ret; refine ⟨?_, Below.refl _ _⟩)
    all_goals (have := HB.out; simp_all)
  obtain ⟨n, rfl⟩ := Int.eq_ofNat_of_zero_le (show 0 ≤ n by omega)
  have hn : n ≤ 16384 := by omega
  clear hbad n0 n1
  go_enter Try.func5, Try.ntmps5
  go_wp2_with fail
  refine (mem_new_ok _ _ hn).mono ?_
  rintro e w1 ⟨rfl, hm, hw⟩
  generalize hb : w.heap.size + 1 = b at hm ⊢
  have hB : w.heap.size ≤ b := by omega
  generalize hmb : w.heap.size = mb at hm
  have hMB : w.heap.size ≤ mb := by omega
  clear hb hmb
  have hlen : (List.replicate n (0 : Int)).length = n := by simp
  generalize List.replicate n (0 : Int) = bs at hm hlen
  by_cases hbad : p < 0 ∨ (bs.length : Int) < xs.length ∨ (bs.length : Int) - xs.length < p
  · go_wp2_with fail
    refine (mem_write_bad b mb bs p a _ cap _ hm p0 p1 (by omega) hbad).mono ?_
    rintro e w' ⟨rfl, rfl⟩
    unfold memRangeErr
    go_wp2
    go_ret
    exact ⟨rfl, hw⟩
  obtain ⟨p, rfl⟩ := Int.eq_ofNat_of_zero_le (show 0 ≤ p by omega)
  have hp : p + xs.length ≤ bs.length := by omega
  clear hbad
  go_wp2_with fail
  refine (mem_write_ok b mb bs p a cap xs _ hm hp (Hx.out _ hw).cells Xb.out).mono ?_
  rintro e w2 ⟨rfl, hm2, hk2⟩
  have hw2 : Below w.heap.size w w2 := hw.trans (hk2.below w.heap.size hw.size (fun k e => by omega))
  have hl2 : (splice bs p xs).length = bs.length := length_splice _ _ _ hp
  clear hm hk2 hw
  go_wp2_with fail
  refine (mem_read_ok b mb _ p xs.length _ hm2 (by omega)).mono ?_
  rintro e w3 ⟨g, c3, rfl, hown, hb3⟩
  rw [splice_here bs xs p hp] at hown
  have hw3 := hw2.trans (hb3.mono hw2.size)
  have hm3 : MemAt w3 b mb (splice bs p xs) := hm2.below hb3
  clear hm2 hb3
  go_wp2_with fail
  refine (bytes_same (some ⟨g, 0, none⟩) a c3 cap xs _ (RdB.own hown rfl) (Hx.out _ hw3) (by omega)).mono ?_
  rintro e w' ⟨rfl, k4, rfl⟩
  have hm4 := hm3.drewN k4
  have hw4 : Below w.heap.size w (w3.drewN k4) := below_drewN hw3 _
  clear hm3 hown hw3
  generalize w3.drewN k4 = w4 at *
  by_cases hC : (p : Int) + xs.length ≤ q ∨ (0 ≤ q ∧ q ≤ (p : Int) - ys.length)
  · have hsum : (p : Int) + xs.length ≤ 16384 := by omega
    have hdif : -140737488351232 ≤ (p : Int) - ys.length := by omega
    have HC := Lib.hid hC
    have key : Calls Try.prog 23 #[.pointer (some ⟨b, 0, none⟩), .int .i64 q, .slice a' ys.length cap'] w4 fun e w' => ∃ v bs2, e = .returned v ∧ MemAt w' b mb bs2 ∧ p + xs.length ≤ bs2.length ∧ (bs2.drop p).take xs.length = xs ∧ Below w.heap.size w w' := by
      by_cases hbad : q < 0 ∨ ((splice bs p xs).length : Int) < ys.length ∨ ((splice bs p xs).length : Int) - ys.length < q
      · refine (mem_write_bad b mb _ q a' _ cap' _ hm4 q0 q1 (by omega) hbad).mono ?_
        rintro e w' ⟨rfl, rfl⟩
        exact ⟨_, _, rfl, hm4, by omega, splice_here bs xs p hp, hw4⟩
      · obtain ⟨q, rfl⟩ := Int.eq_ofNat_of_zero_le (show 0 ≤ q by omega)
        refine (mem_write_ok b mb _ q a' cap' ys _ hm4 (by omega) (Hy.out _ hw4).cells Yb.out).mono ?_
        rintro e w' ⟨rfl, hm5, hk5⟩
        exact ⟨_, _, rfl, hm5, by rw [length_splice _ _ _ (by omega)]; omega, splice_apart bs xs ys p q hp (by omega) (by omega), hw4.trans (hk5.below w.heap.size hw4.size (fun k e => by omega))⟩
    have Hkey := Lib.hid key
    clear key hm4
    by_cases hc1 : (p : Int) + xs.length ≤ q
    · clear hC
      go_wp2_with fail
      refine Hkey.out.mono ?_
      rintro e w5 ⟨v, bs2, rfl, hm5, hl5, ht5, hw5⟩
      go_wp2_with fail
      refine (mem_read_ok b mb _ p xs.length _ hm5 hl5).mono ?_
      rintro e w6 ⟨g2, c6, rfl, hown, hb6⟩
      rw [ht5] at hown
      have hw6 := hw5.trans (hb6.mono hw5.size)
      go_wp2_with fail
      refine (bytes_same (some ⟨g2, 0, none⟩) a c6 cap xs _ (RdB.own hown rfl) (Hx.out _ hw6) (by omega)).mono ?_
      rintro e w' ⟨rfl, k7, rfl⟩
      have hw7 : Below w.heap.size w (w6.drewN k7) := below_drewN hw6 _
      go_wp2
      go_ret
      exact ⟨rfl, hw7⟩
    · have hc2 : 0 ≤ q := by omega
      have hc3 : q ≤ (p : Int) - ys.length := by omega
      clear hC
      go_wp2_with fail
      refine Hkey.out.mono ?_
      rintro e w5 ⟨v, bs2, rfl, hm5, hl5, ht5, hw5⟩
      go_wp2_with fail
      refine (mem_read_ok b mb _ p xs.length _ hm5 hl5).mono ?_
      rintro e w6 ⟨g2, c6, rfl, hown, hb6⟩
      rw [ht5] at hown
      have hw6 := hw5.trans (hb6.mono hw5.size)
      go_wp2_with fail
      refine (bytes_same (some ⟨g2, 0, none⟩) a c6 cap xs _ (RdB.own hown rfl) (Hx.out _ hw6) (by omega)).mono ?_
      rintro e w' ⟨rfl, k7, rfl⟩
      have hw7 : Below w.heap.size w (w6.drewN k7) := below_drewN hw6 _
      go_wp2
      go_ret
      exact ⟨rfl, hw7⟩
  · have hc1 : ¬ (p : Int) + xs.length ≤ q := by omega
    have hsum : (p : Int) + xs.length ≤ 16384 := by omega
    have hdif : -140737488351232 ≤ (p : Int) - ys.length := by omega
    by_cases hc2 : 0 ≤ q
    · have hc3 : ¬ q ≤ (p : Int) - ys.length := by omega
      clear hC hm4
      go_wp2
      go_ret
      exact ⟨rfl, hw4⟩
    · clear hC hm4
      go_wp2
      go_ret
      exact ⟨rfl, hw4⟩
end Go.Proofs.Ytlcjikeolfebnaa
