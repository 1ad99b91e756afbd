/- granarylaw3.PickWaits returns true, and writes nothing that was there. -/
import Derived.Test.YtkehhfgoikbciaaPickGo
import Derived.Test.YtkehhfgoikbciaaPick
import Derived.Test.YtkehhfgoikbciaaRd
import Derived.Lib.SliceRun
namespace Go.Proofs.Ytkehhfgoikbciaa
open Go.RowKit Go.Shelf
set_option linter.unusedVariables false

theorem madeCells_int (n : Nat) : madeCells #[.int .i64 0] n = ((List.replicate n (0 : Int)).map (Value.int .i64)).toArray := by
  apply Array.toList_inj.1
  rw [toList_madeCells_one]
  simp

set_option maxRecDepth 100000 in
set_option maxHeartbeats 4000000 in
theorem pickWaits_walk (w : World) (a0 : Option Addr) (len0 cap0 : Nat) (z0 : List Int) (hz0 : IsRow .i64 8 w a0 len0 cap0 z0)
    (a1 : Option Addr) (len1 cap1 : Nat) (A : Nat → Option Addr) (L C : Nat → Nat) (Z : Nat → Nat → Int) (hz1 : IsRows w a1 len1 A L C Z) (q : Int) (hq0 : -9223372036854775808 ≤ q) (hq1 : q ≤ 9223372036854775807) :
    Calls Try.prog 5 #[.slice a0 len0 cap0, .slice a1 len1 cap1, .int .i64 q] w fun e w' => e = .returned (.bool true) ∧ Below w.heap.size w w' := by
  have HZ0 := Lib.hid hz0.rowAt
  have HZ1 := Lib.hid hz1
  have hl1 : len1 * 24 ≤ 140737488351232 := by
    rcases hz1 with h | ⟨_, _, _, h, _⟩ <;> omega
  generalize hz : (fun i => z0.getD i 0) = z at HZ0
  clear hz0 hz1 hz z0
  go_enter Try.func5, Try.ntmps5
  go_wp2_with fail
  refine (pickFact_any _).mono ?_
  rintro e w1 ⟨rfl, hB1⟩
  have HB1 := Lib.hid hB1
  have HZ2 := Lib.hid (HZ0.out.below hB1)
  clear hB1
  go_wp2_with fail
  refine (new_any a0 len0 cap0 z _ HZ2.out).mono ?_
  rintro e w2 (⟨code, _, rfl, rfl⟩ | ⟨b, g, cap, rfl, hb, hg, hp, hf, hB2⟩)
  · go_wp2
    go_ret
    exact ⟨rfl, HB1.out⟩
  · have hs1 := HB1.out.size
    have HB := Lib.hid (HB1.out.trans (hB2.mono hs1))
    have hbB : w.heap.size ≤ b := by omega
    have n0 := hf.n0
    have n8 := hf.n8
    have Hp := Lib.hid hp
    have Hf := Lib.hid hf
    clear hB2 hp hf hb hg hs1 HZ2 HB1 HZ0
    go_wp2_with fail
    go_loopw [10] (fun i wr => ∃ (t k : Nat) (c : Int), t ≤ len1 ∧ i = .int .i64 t ∧ PickAt wr b g cap len0 z k c ∧ PickFit len0 z k c ∧ Below w.heap.size w wr) (fun i _ => len1 - (intOf i).toNat)
    case atStart => exact ⟨0, 0, _, Nat.zero_le _, rfl, Hp.out, Hf.out, HB.out⟩
    case round =>
      obtain ⟨t, k, c, ht, rfl, hp, hf, hB⟩ := hrel
      have Hp := Lib.hid hp
      have Hf := Lib.hid hf
      have HB := Lib.hid hB
      clear hp hf hB
      by_cases hlt : t < len1
      · obtain ⟨b1, off1, rfl, _, hb1, hr⟩ := HZ1.out.resolve_left (by omega)
        obtain ⟨hcell, hrow⟩ := hr t hlt
        have hc := (HB.out.cell (p := ⟨b1, off1 + t, none⟩) hb1).trans hcell
        have hrw := hrow.below HB.out
        have hne : 0 < L t → ∀ x, A t = some x → x.block ≠ b := fun h0 x hx => by
          obtain ⟨_, _, h | ⟨b', off', hA, hlt', _⟩⟩ := hrow
          · omega
          · rw [hA] at hx
            cases hx
            simp only
            omega
        have N := Lib.hid (next_any b g cap len0 z k c (A t) (L t) (C t) (Z t) wr Hp.out Hf.out hrw hne)
        have hrc : ∀ b' off', A t = some ⟨b', off', none⟩ → ∀ i, i < L t → b' < w.heap.size ∧ w.cell? ⟨b', off' + i, none⟩ = some (.int .i64 (Z t i)) := fun b' off' hA i hi => by
          obtain ⟨_, _, h | ⟨b'', off'', hA', hlt', hcc⟩⟩ := hrow
          · omega
          · rw [hA'] at hA
            cases hA
            exact ⟨hlt', hcc i hi⟩
        have hsome : 0 < L t → ∃ b' off', A t = some ⟨b', off', none⟩ := fun h0 => by
          obtain ⟨_, _, h | ⟨b'', off'', hA', hlt', hcc⟩⟩ := hrow
          · omega
          · exact ⟨b'', off'', hA'⟩
        have Hrc := Lib.hid hrc
        have Hsome := Lib.hid hsome
        clear hcell hrow hrw hne hrc hsome hr HZ1
        generalize A t = At at *
        generalize L t = Lt at *
        generalize C t = Ct at *
        generalize Z t = Zt at *
        go_wp2_with fail
        refine N.out.mono ?_
        rintro e w3 (⟨code, _, rfl, hp, hk⟩ | ⟨rfl, _, j, c', hst, rfl, hp, hk⟩)
        · have hc3 := (hk.cell (p := ⟨b1, off1 + t, none⟩) (by have := HB.out.size; simp; omega) (by simp; omega)).trans hc
          have HB3 := Lib.hid (HB.out.trans (hk.below w.heap.size HB.out.size (fun k' e => by omega)))
          have Hp3 := Lib.hid hp
          clear hp hk hc
          go_wp2
          go_roundw
          case rel => exact ⟨t + 1, k, c, by omega, by go_num, Hp3.out, Hf.out, HB3.out⟩
          case measure => simp [intOf]; omega
        · have hfit := hst.fit Hf.out
          obtain ⟨b', off', rfl⟩ := Hsome.out n0
          obtain ⟨hb', hcz⟩ := Hrc.out b' off' rfl j hfit.1.kn
          have hc3 := (hk.cell (p := ⟨b1, off1 + t, none⟩) (by have := HB.out.size; simp; omega) (by simp; omega)).trans hc
          have HB3 := Lib.hid (HB.out.trans (hk.below w.heap.size HB.out.size (fun k' e => by omega)))
          have hz3 := (HB3.out.cell (p := ⟨b', off' + j, none⟩) hb').trans hcz
          have Hp3 := Lib.hid hp
          have hjn := hfit.1.kn
          have hzpos := hfit.2
          have Hf3 := Lib.hid hfit.1
          have d1 : decide ((Lt : Int) ≤ (j : Int)) = false := by simp; omega
          have d2 : decide (Zt j ≤ 0) = false := by simp; omega
          have d3 : decide (Lt ≤ j) = false := by simp; omega
          clear hp hk hc hfit hst hcz Hrc Hsome N
          go_wp2
          go_roundw
          case rel => exact ⟨t + 1, j, c', by omega, by go_num, Hp3.out, Hf3.out, HB3.out⟩
          case measure => simp [intOf]; omega
      · clear HZ1
        go_wp2_with fail
        refine (pick_any q len0 _ hq0 hq1 (by omega) (by omega)).mono ?_
        rintro e w' ⟨rfl, rfl⟩
        have p0 := pickOf_0 q len0 (by omega)
        have p1 := pickOf_lt q len0 (by omega)
        generalize pickOf q len0 = v at p0 p1 ⊢
        obtain ⟨v, rfl⟩ := Int.eq_ofNat_of_zero_le p0
        have hmk := fun (w : World) => run_make_row' (P := Try.prog) 22 3 (.int .i64 0) 8 Try.underlying22 (by kernel_rfl) rfl .i64 .i64 len0 (by omega) (by omega) w
        have hbn := (Blk.new wr (madeCells #[.int .i64 0] len0) 3).of (madeCells_int len0)
        have hcv : (wr.alloc (.cells (madeCells #[.int .i64 0] len0) 3)).cell? ⟨wr.heap.size, v, none⟩ = some (.int .i64 0) := by
          rw [hbn.cell]; simp [show v < len0 by omega]
        have hfv : (wr.alloc (.cells (madeCells #[.int .i64 0] len0) 3)).frozen? ⟨wr.heap.size, v, none⟩ = false := hbn.free v
        have hbs := (Blk.new wr ((madeCells #[.int .i64 0] len0).setIfInBounds v (.int .i64 1)) 3).of (by rw [madeCells_int])
        have hbw : b ≠ wr.heap.size := by have := Hp.out.blk.lt; omega
        have hp5 : PickAt (wr.alloc (.cells ((madeCells #[.int .i64 0] len0).setIfInBounds v (.int .i64 1)) 3)) b g cap len0 z k c := Hp.out.below ((Below.refl _ _).alloc (Nat.le_refl _) _)
        have hB5 : Below w.heap.size w (wr.alloc (.cells ((madeCells #[.int .i64 0] len0).setIfInBounds v (.int .i64 1)) 3)) := HB.out.alloc HB.out.size _
        have hW5 : WaitsAt (wr.alloc (.cells ((madeCells #[.int .i64 0] len0).setIfInBounds v (.int .i64 1)) 3)) b wr.heap.size 0 len0 (fun i => if i = v then 1 else 0) := by
          refine ⟨Ne.symm hbw, hbs.lt, fun i hi => ?_⟩
          rw [Nat.zero_add, hbs.cell]
          by_cases e : i = v
          · subst e; simp [hi]
          · have e' : ¬ v = i := fun x => e x.symm
            simp [e, e', hi]
        have Hp5 := Lib.hid hp5
        have HB5 := Lib.hid hB5
        have HW5 := Lib.hid hW5
        have hsz5 : wr.heap.size < (wr.alloc (.cells ((madeCells #[.int .i64 0] len0).setIfInBounds v (.int .i64 1)) 3)).heap.size := by simp
        have Hs5 := Lib.hid hsz5
        clear hbn hbs hp5 hB5 hW5 hsz5
        go_wp2_with fail
        generalize (wr.alloc (.cells ((madeCells #[.int .i64 0] len0).setIfInBounds v (.int .i64 1)) 3)) = w5 at *
        generalize wr.heap.size = S at *
        go_loopw [15] (fun i wr => ∃ (t k : Nat) (c : Int), t ≤ 40 ∧ i = .int .i64 t ∧ PickAt wr b g cap len0 z k c ∧ PickFit len0 z k c ∧ Below w.heap.size w wr ∧ WaitsAt wr b S 0 len0 (fun i => if i = v then 1 else 0)) (fun i _ => 40 - (intOf i).toNat)
        case atStart => exact ⟨0, k, c, Nat.zero_le _, rfl, Hp5.out, Hf.out, HB5.out, HW5.out⟩
        case round =>
          obtain ⟨t2, k2, c2, ht2, rfl, hp, hf, hB, hW⟩ := hrel
          by_cases hlt2 : t2 < 40
          · have N := Lib.hid (next_go b g cap len0 z k2 c2 S 0 len0 _ _ hp hf hW (fun i hi => by split <;> omega) ⟨v, by omega, by simp⟩)
            have Hf2 := Lib.hid hf
            have HB2 := Lib.hid hB
            have HW2 := Lib.hid hW
            clear hp hf hB hW
            go_wp2_with fail
            refine N.out.mono ?_
            rintro e w6 ⟨j, c', hst, rfl, hp6, hk6⟩
            have hfit := hst.fit Hf2.out
            have hj : j = v := by
              have := hfit.2
              by_cases e : j = v
              · exact e
              · simp [e] at this
            subst hj
            have Hp6 := Lib.hid hp6
            have Hf6 := Lib.hid hfit.1
            have HB6 := Lib.hid (HB2.out.trans (hk6.below w.heap.size HB2.out.size (fun k' e => by omega)))
            have HW6 := Lib.hid (HW2.out.kept hk6)
            clear hp6 hfit hk6 hst
            go_wp2
            go_roundw
            case rel => exact ⟨t2 + 1, j, c', by omega, by go_num, Hp6.out, Hf6.out, HB6.out, HW6.out⟩
            case measure => simp [intOf]; omega
          · go_wp2
            go_ret
            exact ⟨rfl, hB⟩
end Go.Proofs.Ytkehhfgoikbciaa
