/- granarylaw3.RingPosts returns true, and writes nothing that was there. -/
import Derived.Test.YtkehhfgoikbciaaDoorSeer
import Derived.Test.YtkehhfgoikbciaaDoorOpsRd
import Derived.Test.YtkehhfgoikbciaaDoorTold
import Derived.Deep.MidRow
import Derived.Laws.Tables
namespace Go.Proofs.YtkehhfgoikbciaaDoor
open Go.RowKit
set_option linter.unusedVariables false

theorem putDown_step (n u : Nat) (h : 0 < n) : putDown n (u % n) (seerDown n u) = seerDown n (u + 1) := by
  rw [seerDown_step n u h]
  unfold putDown
  have hm := Nat.mod_lt u h
  by_cases e : u % n + 1 = n
  · rw [if_pos e, if_pos (by rw [e, Nat.mod_self])]
  · rw [if_neg e, if_neg (by rw [Nat.mod_eq_of_lt (by omega)]; omega)]
theorem phase_even (n u : Nat) (h : 0 < n) : (((u : Int) / (n : Int)) % 2 == 0) = !seerDown n u := by
  unfold seerDown
  have e : ((u : Int) / (n : Int)) % 2 = ((u / n % 2 : Nat) : Int) := by simp
  rw [e]
  rcases Nat.mod_two_eq_zero_or_one (u / n) with q | q <;> simp [q]

set_option maxRecDepth 100000 in
set_option maxHeartbeats 8000000 in
theorem ringPosts_walk (w : World) (hg : Laid w) (n : Int) (hn0 : -9223372036854775808 ≤ n) (hn1 : n ≤ 9223372036854775807) (a : Option Addr) (len cap : Nat) (z : Nat → Nat → Int) (hz : IsPairs w a len z) :
    Calls Tryd.prog 7 #[.int .i64 n, .slice a len cap] w fun e w' => e = .returned (.bool true) ∧ Below w.heap.size w w' := by
  have hlen : len * 16 ≤ 140737488351232 := by
    rcases hz with h | ⟨_, _, _, h, _⟩ <;> omega
  have hz' := Lib.hid hz
  have HG := Lib.hid hg
  have hpos := hg.pos
  clear hz hg
  by_cases hbad : n < 2 ∨ 16 < n
  · have Hb := Lib.hid hbad
    clear hbad
    have E := Lib.hid (error_hit 1 1 w HG.out)
    unfold errV at E
    go_enter Tryd.func7, Tryd.ntmps7
    go_wp2_with fail
    refine (post_new_bad _ _ Hb.out).mono ?_
    rintro e w' ⟨rfl, rfl⟩
    unfold ringErr
    by_cases c1 : n < 2
    · go_wp2_with fail
      refine E.out.mono ?_
      rintro e w' ⟨rfl, hB⟩
      have HBB := Lib.hid hB
      clear hB
      go_wp2
      go_ret
      exact ⟨rfl, HBB.out⟩
    · have c2 : 16 < n := by have := Hb.out; omega
      go_wp2_with fail
      refine E.out.mono ?_
      rintro e w' ⟨rfl, hB⟩
      have HBB := Lib.hid hB
      clear hB
      go_wp2
      go_ret
      exact ⟨rfl, HBB.out⟩
  · obtain ⟨n, rfl⟩ := Int.eq_ofNat_of_zero_le (show 0 ≤ n by omega)
    have h2 : 2 ≤ n := by omega
    have h16 : n ≤ 16 := by omega
    have hnz : ((n : Int) == 0) = false := by simp; omega
    clear hbad hn0 hn1
    go_enter Tryd.func7, Tryd.ntmps7
    go_wp2_with fail
    refine (post_new_ok n _ h2 h16).mono ?_
    rintro e w1 ⟨rfl, hb, hB⟩
    have HB := Lib.hid hB
    have HK := Lib.hid hb
    clear hb hB
    generalize hbb : w.heap.size + 1 = bb at *
    have hbb1 : w.heap.size ≤ bb := by omega
    clear hbb
    generalize hspp : (some (⟨w.heap.size, 0, none⟩ : Addr)) = sp at *
    clear hspp
    go_wp2_with fail
    go_loopw [7, 8, 9] (fun hd pu i wr => ∃ (t h u : Nat), t ≤ len ∧ i = .int .i64 t ∧ hd = .int .i64 h ∧ pu = .int .i64 u ∧ h < n ∧ u ≤ t ∧ Blk wr bb (postCells sp n h (u % n) (seerDown n u)) 153 ∧ Below w.heap.size w wr) (fun _ _ i _ => len - (intOf i).toNat)
    case atStart => exact ⟨0, 0, 0, Nat.zero_le _, rfl, rfl, rfl, by omega, Nat.le_refl _, by have := HK.out; simpa [seerDown] using this, HB.out⟩
    case round =>
      obtain ⟨t, h, u, ht, rfl, rfl, rfl, hh, hut, hbk, hbl⟩ := hrel
      have HK2 := Lib.hid hbk
      have HB2 := Lib.hid hbl
      clear hbk hbl HK HB
      by_cases hlt : t < len
      · obtain ⟨b, off, rfl, _, hbW, hcell, hwf⟩ := hz'.out.resolve_left (by omega)
        have hr : wr.rangeAt b (off + t * 2) [Value.int .i64 (z t 0), Value.int .i64 (z t 1)] := by
          intro j v hj
          match j, hj with
          | 0, hj => simp at hj; subst hj; exact (HB2.out.cell (p := ⟨b, off + t * 2 + 0, none⟩) hbW).trans (hcell t 0 hlt (by omega))
          | 1, hj => simp at hj; subst hj; exact (HB2.out.cell (p := ⟨b, off + t * 2 + 1, none⟩) hbW).trans (hcell t 1 hlt (by omega))
        have hk0 := bounds_i64 (hwf t 0 hlt (by omega))
        have hk1 := bounds_i64 (hwf t 1 hlt (by omega))
        have HR := Lib.hid hr
        clear hr hcell hwf hz'
        generalize z t 0 = x at *
        generalize z t 1 = y at *
        have hy0 := hk1.1
        have hy1 := hk1.2
        clear hk0 hk1
        have hun : u % n < n := Nat.mod_lt _ (by omega)
        have HK3 := Lib.hid (HK2.out.alloc (.cells #[.int .i64 x, .int .i64 y] 58))
        have HB3 := Lib.hid (HB2.out.alloc HB2.out.size (.cells #[.int .i64 x, .int .i64 y] 58))
        have hS : wr.heap.size ≠ bb := by have := HK2.out.lt; omega
        have hSw := HB2.out.size
        have HO3 := Lib.hid (Blk.new wr #[.int .i64 x, .int .i64 y] 58)
        have hu1 : u ≤ len := by omega
        by_cases hx : x = 1
        · subst hx
          by_cases hf : (u + 1) % n = h
          · have hfi : (((u : Int) + 1) % (n : Int) == (h : Int)) = true := by
              have : ((u : Int) + 1) % (n : Int) = (((u + 1) % n : Nat) : Int) := by simp
              rw [this, hf]; simp
            have hf2 : (u % n + 1) % n = h := by rw [Nat.mod_add_mod]; exact hf
            clear hf
            go_wp2_with (with_reducible refine wpList_load_mid rfl 58 (.tmp 44) rfl b (off + t * 2) rfl [Value.int .i64 1, Value.int .i64 y] _ HR.out Tryd.underlying58 rfl (by kernel_rfl) ?_)
            refine (post_put_full bb sp n h (u % n) _ _ HK3.out (by omega) h16 hun hh hf2).mono ?_
            rintro e w2 ⟨rfl, q, rfl⟩
            have HK4 := Lib.hid (HK3.out.drewN q)
            have HB4 := Lib.hid (show Below w.heap.size w ((wr.alloc (.cells #[.int .i64 1, .int .i64 y] 58)).drewN q) from ⟨HB3.out.os, HB3.out.tape, HB3.out.output, HB3.out.size, HB3.out.block⟩)
            clear HK3 HB3 HK2 HB2 HO3
            generalize World.drewN _ q = w2 at *
            go_wp2_with fail
            refine (error_hit 3 3 _ (HG.out.below hpos HB4.out)).mono ?_
            rintro e w3 ⟨rfl, hb3⟩
            have HK5 := Lib.hid (show Blk w3 bb _ _ from (hb3.block bb HK4.out.lt).trans HK4.out)
            have HB5 := Lib.hid (HB4.out.trans (hb3.mono HB4.out.size))
            clear hb3
            go_wp2
            go_roundw
            case rel => exact ⟨t + 1, h, u, by omega, by go_num, rfl, rfl, hh, by omega, HK5.out, HB5.out⟩
            case measure => simp [intOf]; omega
          · have hfi : (((u : Int) + 1) % (n : Int) == (h : Int)) = false := by
              have : ((u : Int) + 1) % (n : Int) = (((u + 1) % n : Nat) : Int) := by simp
              rw [this]
              simp only [beq_eq_false_iff_ne, ne_eq]
              intro e
              exact hf (by exact_mod_cast e)
            have hf2 : (u % n + 1) % n ≠ h := by rw [Nat.mod_add_mod]; exact hf
            have hph := phase_even n u (by omega)
            have hq0 : 0 ≤ (u : Int) / (n : Int) := Int.ediv_nonneg (by omega) (by omega)
            have hq1 : (u : Int) / (n : Int) ≤ 9223372036854775807 := by
              have := Int.ediv_le_self (a := (u : Int)) (n : Int) (by omega)
              omega
            clear hf
            go_wp2_with (with_reducible refine wpList_load_mid rfl 58 (.tmp 44) rfl b (off + t * 2) rfl [Value.int .i64 1, Value.int .i64 y] _ HR.out Tryd.underlying58 rfl (by kernel_rfl) ?_)
            refine (post_put_room bb sp n h (u % n) _ _ HK3.out (by omega) h16 hun hh hf2).mono ?_
            rintro e w2 ⟨rfl, hb2, hk2⟩
            rw [Nat.mod_add_mod, putDown_step n u (by omega)] at hb2
            have HK4 := Lib.hid hb2
            have HB4 := Lib.hid (HB3.out.trans (hk2.below w.heap.size HB3.out.size (fun k e => by omega)))
            clear HK3 HB3 HK2 HB2 HO3 hb2 hk2
            cases hsd : seerDown n u with
            | true =>
              rw [hsd] at hph
              clear hsd
              go_wp2
              go_roundw
              case rel => exact ⟨t + 1, h, u + 1, by omega, by go_num, rfl, by go_num, hh, by omega, HK4.out, HB4.out⟩
              case measure => simp [intOf]; omega
            | false =>
              rw [hsd] at hph
              clear hsd
              go_wp2
              go_roundw
              case rel => exact ⟨t + 1, h, u + 1, by omega, by go_num, rfl, by go_num, hh, by omega, HK4.out, HB4.out⟩
              case measure => simp [intOf]; omega
        · have hxb : (x == 1) = false := by simpa using hx
          clear hx
          by_cases hy : y < 0 ∨ (n : Int) ≤ y
          · have HY := Lib.hid hy
            by_cases hyn : y < 0
            · clear hy
              go_wp2_with (with_reducible refine wpList_load_mid rfl 58 (.tmp 44) rfl b (off + t * 2) rfl [Value.int .i64 x, Value.int .i64 y] _ HR.out Tryd.underlying58 rfl (by kernel_rfl) ?_)
              refine (post_free_bad bb sp n h (u % n) _ y _ HK3.out h16 HY.out).mono ?_
              rintro e w2 ⟨rfl, rfl⟩
              go_wp2_with fail
              refine (error_hit 1 1 _ (HG.out.below hpos HB3.out)).mono ?_
              rintro e w3 ⟨rfl, hb3⟩
              have HK5 := Lib.hid (show Blk w3 bb _ _ from (hb3.block bb HK3.out.lt).trans HK3.out)
              have HB5 := Lib.hid (HB3.out.trans (hb3.mono HB3.out.size))
              clear hb3
              go_wp2
              go_roundw
              case rel => exact ⟨t + 1, h, u, by omega, by go_num, rfl, rfl, hh, by omega, HK5.out, HB5.out⟩
              case measure => simp [intOf]; omega
            · have hyn2 : (n : Int) ≤ y := by omega
              clear hy
              go_wp2_with (with_reducible refine wpList_load_mid rfl 58 (.tmp 44) rfl b (off + t * 2) rfl [Value.int .i64 x, Value.int .i64 y] _ HR.out Tryd.underlying58 rfl (by kernel_rfl) ?_)
              refine (post_free_bad bb sp n h (u % n) _ y _ HK3.out h16 HY.out).mono ?_
              rintro e w2 ⟨rfl, rfl⟩
              go_wp2_with fail
              refine (error_hit 1 1 _ (HG.out.below hpos HB3.out)).mono ?_
              rintro e w3 ⟨rfl, hb3⟩
              have HK5 := Lib.hid (show Blk w3 bb _ _ from (hb3.block bb HK3.out.lt).trans HK3.out)
              have HB5 := Lib.hid (HB3.out.trans (hb3.mono HB3.out.size))
              clear hb3
              go_wp2
              go_roundw
              case rel => exact ⟨t + 1, h, u, by omega, by go_num, rfl, rfl, hh, by omega, HK5.out, HB5.out⟩
              case measure => simp [intOf]; omega
          · obtain ⟨y, rfl⟩ := Int.eq_ofNat_of_zero_le (show 0 ≤ y by omega)
            have hyn : y < n := by omega
            have hyn2 : ¬ (n : Int) ≤ (y : Int) := by omega
            clear hy
            go_wp2_with (with_reducible refine wpList_load_mid rfl 58 (.tmp 44) rfl b (off + t * 2) rfl [Value.int .i64 x, Value.int .i64 y] _ HR.out Tryd.underlying58 rfl (by kernel_rfl) ?_)
            refine (post_free_ok bb sp n h (u % n) _ y _ HK3.out h16 hyn).mono ?_
            rintro e w2 ⟨rfl, hb2, hk2⟩
            have HK4 := Lib.hid hb2
            have HB4 := Lib.hid (HB3.out.trans (hk2.below w.heap.size HB3.out.size (fun k e => by omega)))
            have ho := hk2.blk HO3.out hS
            have ho1 := ho.cell 1
            simp only [List.getElem?_toArray, List.getElem?_cons_zero, List.getElem?_cons_succ] at ho1
            clear HK3 HB3 HK2 HB2 HO3 hb2 hk2 ho
            go_wp2
            go_roundw
            case rel => exact ⟨t + 1, y, u, by omega, by go_num, rfl, rfl, hyn, by omega, HK4.out, HB4.out⟩
            case measure => simp [intOf]; omega
      · go_wp2
        go_ret
        exact ⟨rfl, HB2.out⟩
end Go.Proofs.YtkehhfgoikbciaaDoor
