/- granarylaw3.RingRoom returns true, and writes nothing that was there. -/
import Derived.Test.YtkehhfgoikbciaaDoorRingOps
import Derived.Test.YtkehhfgoikbciaaDoorTold
import Derived.Test.YtkehhfgoikbciaaDoorPick
import Derived.Test.YtkehhfgoikbciaaDoorRd
namespace Go.Proofs.YtkehhfgoikbciaaDoor
open Go.RowKit
set_option linter.unusedVariables false

/-- a ring of the call's own -/
structure RR (w wr : World) (b sb n h : Nat) (l : List Int) : Prop where
  r : RingAt wr b sb n h l
  bel : Below w.heap.size w wr
  hb : w.heap.size ≤ b
  hs : w.heap.size ≤ sb
theorem RR.draw {w wr : World} {b sb n h : Nat} {l : List Int} (hr : RR w wr b sb n h l) (q : Nat) : RR w (wr.drewN q) b sb n h l :=
  ⟨hr.r.drewN q, ⟨hr.bel.os, hr.bel.tape, hr.bel.output, hr.bel.size, hr.bel.block⟩, hr.hb, hr.hs⟩
theorem RR.next {w wr w' : World} {b sb n h h' : Nat} {l l' : List Int} {S : Nat → Prop} (hr : RR w wr b sb n h l) (hk : Keep S wr w') (hS : ∀ k, S k → k = b ∨ k = sb) (h2 : RingAt w' b sb n h' l') : RR w w' b sb n h' l' :=
  ⟨h2, hr.bel.trans (hk.below w.heap.size hr.bel.size (fun k hk' => by have := hr.hb; have := hr.hs; rcases hS k hk' with rfl | rfl <;> omega)), hr.hb, hr.hs⟩
theorem RR.below {w wr w' : World} {b sb n h : Nat} {l : List Int} (hr : RR w wr b sb n h l) (hb : Below wr.heap.size wr w') : RR w w' b sb n h l :=
  ⟨hr.r.below hb, hr.bel.trans (hb.mono hr.bel.size), hr.hb, hr.hs⟩
def hundreds (m : Nat) : List Int := (List.range m).map fun (i : Nat) => (100 + (i : Int))
theorem hundreds_length (m : Nat) : (hundreds m).length = m := by simp [hundreds]
theorem hundreds_succ (m : Nat) : hundreds (m + 1) = hundreds m ++ [100 + (m : Int)] := by simp [hundreds, List.range_succ]
theorem hundreds_drop (m i : Nat) (h : i < m) : (hundreds m).drop i = (100 + (i : Int)) :: (hundreds m).drop (i + 1) := by
  have hl : i < (hundreds m).length := by rw [hundreds_length]; exact h
  rw [List.drop_eq_getElem_cons hl]
  congr 1
  simp [hundreds]

set_option maxRecDepth 100000 in
set_option maxHeartbeats 4000000 in
theorem ringRoom_walk (w : World) (hg : Laid w) (n : Int) (hn0 : -9223372036854775808 ≤ n) (hn1 : n ≤ 9223372036854775807) (x : Int) (hx0 : -9223372036854775808 ≤ x) (hx1 : x ≤ 9223372036854775807) :
    Calls Tryd.prog 5 #[.int .i64 n, .int .i64 x] w fun e w' => e = .returned (.bool true) ∧ Below w.heap.size w w' := by
  have HG := Lib.hid hg
  have hpos := hg.pos
  clear hg
  by_cases hbad : n < 2 ∨ 16 < n
  · have Hb := Lib.hid hbad
    have hBB : (decide (n < 2) || decide (16 < n)) = true := by simp; omega
    have HB := Lib.hid hBB
    clear hbad hBB
    go_enter Tryd.func5, Tryd.ntmps5
    go_wp2_with fail
    refine (ring_new_bad _ _ Hb.out).mono ?_
    rintro e w' ⟨rfl, rfl⟩
    unfold rgErr
    by_cases c1 : n < 2
    · go_wp2
      go_ret
      exact ⟨rfl, Below.refl _ _⟩
    · have c2 : 16 < n := by have := Hb.out; omega
      go_wp2
      go_ret
      exact ⟨rfl, Below.refl _ _⟩
  · obtain ⟨n, rfl⟩ := Int.eq_ofNat_of_zero_le (show 0 ≤ n by omega)
    have h2 : 2 ≤ n := by omega
    have h16 : n ≤ 16 := by omega
    clear hbad hn0 hn1
    go_enter Tryd.func5, Tryd.ntmps5
    go_wp2_with fail
    refine (ring_new_ok n _ h2 h16).mono ?_
    rintro e w1 ⟨rfl, hr, hb⟩
    have HR := Lib.hid (show RR w w1 (w.heap.size + 1) w.heap.size n 0 [] from ⟨hr, hb, by omega, by omega⟩)
    clear hr hb
    go_wp2_with fail
    refine (pick_any x 100 _ hx0 hx1 (by omega) (by omega)).mono ?_
    rintro e w' ⟨rfl, rfl⟩
    have p0 := pickOf_0 x 100 (by omega)
    have p1 := pickOf_lt x 100 (by omega)
    generalize pickOf x 100 = v at p0 p1 ⊢
    obtain ⟨v, rfl⟩ := Int.eq_ofNat_of_zero_le p0
    go_wp2_with fail
    go_loopw [8] (fun i wr => ∃ (t h : Nat), t ≤ v ∧ i = .int .i64 t ∧ RR w wr (w.heap.size + 1) w.heap.size n h []) (fun i _ => v - (intOf i).toNat)
    case atStart => exact ⟨0, 0, Nat.zero_le _, rfl, HR.out⟩
    case round =>
      obtain ⟨t, h, ht, rfl, hR⟩ := hrel
      have HR2 := Lib.hid hR
      clear hR HR
      by_cases hlt : t < v
      · go_wp2_with fail
        refine (ring_push_ok _ _ n h [] (t : Int) _ HR2.out.r (by simp; omega)).mono ?_
        rintro e w2 ⟨rfl, hr, hk⟩
        have HR3 := Lib.hid (HR2.out.next hk (fun k h => h) hr)
        clear hr hk HR2
        go_wp2_with fail
        refine (ring_pop_ok _ _ n h (t : Int) [] _ HR3.out.r).mono ?_
        rintro e w3 ⟨rfl, hr, hk⟩
        have HR4 := Lib.hid (HR3.out.next hk (fun k h => .inl h) hr)
        clear hr hk HR3
        go_wp2
        go_roundw
        case rel => exact ⟨t + 1, _, by omega, by go_num, HR4.out⟩
        case measure => simp [intOf]; omega
      · go_wp2_with fail
        go_loopw [12] (fun i wr => ∃ t : Nat, t ≤ n - 1 ∧ i = .int .i64 t ∧ RR w wr (w.heap.size + 1) w.heap.size n h (hundreds t)) (fun i _ => n - (intOf i).toNat)
        case atStart => exact ⟨0, Nat.zero_le _, rfl, HR2.out⟩
        case round =>
          obtain ⟨t2, ht2, rfl, hR⟩ := hrel
          have HR3 := Lib.hid hR
          clear hR HR2
          by_cases hlt2 : t2 < n - 1
          · have hlt3 : (t2 : Int) < (n : Int) - 1 := by omega
            go_wp2_with fail
            refine (ring_push_ok _ _ n h (hundreds t2) (100 + (t2 : Int)) _ HR3.out.r (by rw [hundreds_length]; omega)).mono ?_
            rintro e w2 ⟨rfl, hr, hk⟩
            rw [← hundreds_succ] at hr
            have HR4 := Lib.hid (HR3.out.next hk (fun k h => h) hr)
            clear hr hk HR3
            go_wp2
            go_roundw
            case rel => exact ⟨t2 + 1, by omega, by go_num, HR4.out⟩
            case measure => simp [intOf]; omega
          · have hlt3 : ¬ (t2 : Int) < (n : Int) - 1 := by omega
            obtain rfl : t2 = n - 1 := by omega
            go_wp2_with fail
            refine (ring_push_full _ _ n h (hundreds (n - 1)) 7 _ HR3.out.r (by rw [hundreds_length])).mono ?_
            rintro e w2 ⟨rfl, q2, rfl⟩
            have HR4 := Lib.hid (HR3.out.draw q2)
            clear HR3
            generalize World.drewN _ q2 = w2 at *
            go_wp2_with fail
            refine (error_hit 3 3 _ (HG.out.below hpos HR4.out.bel)).mono ?_
            rintro e w3 ⟨rfl, hb3⟩
            have HR5 := Lib.hid (HR4.out.below hb3)
            clear hb3 HR4
            go_wp2_with fail
            refine (ring_len _ _ n h _ _ HR5.out.r).mono ?_
            rintro e w4 ⟨rfl, q4, rfl⟩
            have HR6 := Lib.hid (HR5.out.draw q4)
            clear HR5
            generalize World.drewN _ q4 = w4 at *
            rw [hundreds_length]
            have hln : ((n - 1 : Nat) : Int) = (n : Int) - 1 := by omega
            rw [hln]
            clear hln
            go_wp2_with fail
            go_loopw [16] (fun i wr => ∃ (t h : Nat), t ≤ n - 1 ∧ i = .int .i64 t ∧ RR w wr (w.heap.size + 1) w.heap.size n h ((hundreds (n - 1)).drop t)) (fun i _ => n - (intOf i).toNat)
            case atStart => exact ⟨0, h, Nat.zero_le _, rfl, HR6.out⟩
            case round =>
              obtain ⟨t5, h5, ht5, rfl, hR⟩ := hrel
              have HR7 := Lib.hid hR
              clear hR HR6
              by_cases hlt5 : t5 < n - 1
              · have hlt6 : (t5 : Int) < (n : Int) - 1 := by omega
                go_wp2_with fail
                refine (ring_pop_ok _ _ n h5 (100 + (t5 : Int)) ((hundreds (n - 1)).drop (t5 + 1)) _ (by rw [← hundreds_drop _ _ hlt5]; exact HR7.out.r)).mono ?_
                rintro e w6 ⟨rfl, hr, hk⟩
                have HR8 := Lib.hid (HR7.out.next hk (fun k h => .inl h) hr)
                clear hr hk HR7
                go_wp2
                go_roundw
                case rel => exact ⟨t5 + 1, _, by omega, by go_num, HR8.out⟩
                case measure => simp [intOf]; omega
              · have hlt6 : ¬ (t5 : Int) < (n : Int) - 1 := by omega
                have he : (hundreds (n - 1)).drop t5 = [] := List.drop_of_length_le (by rw [hundreds_length]; omega)
                have HR8 := Lib.hid (show RR w wr (w.heap.size + 1) w.heap.size n h5 [] by rw [← he]; exact HR7.out)
                clear he HR7
                go_wp2_with fail
                refine (ring_pop_none _ _ n h5 _ HR8.out.r).mono ?_
                rintro e w6 ⟨rfl, q6, rfl⟩
                have HR9 := Lib.hid (HR8.out.draw q6)
                clear HR8
                generalize World.drewN _ q6 = w6 at *
                go_wp2_with fail
                refine (error_hit 4 4 _ (HG.out.below hpos HR9.out.bel)).mono ?_
                rintro e w7 ⟨rfl, hb7⟩
                have HR10 := Lib.hid (HR9.out.below hb7)
                clear hb7
                go_wp2
                go_ret
                exact ⟨rfl, HR10.out.bel⟩
end Go.Proofs.YtkehhfgoikbciaaDoor
