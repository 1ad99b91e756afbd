/- granarylaw3.PickFair returns true, and writes nothing that was there. -/
import Derived.Test.YtkehhfgoikbciaaPickFairLaw
import Derived.Test.YtkehhfgoikbciaaPick
import Derived.Test.YtkehhfgoikbciaaRd
import Derived.Lib.SliceRun
namespace Go.Proofs.Ytkehhfgoikbciaa
open Go.RowKit Go.Shelf
set_option linter.unusedVariables false

/-- a block that holds y 0, .., y (n - 1) -/
def IntBlk (w : World) (S n : Nat) (y : Nat → Int) : Prop := Blk w S ((List.range n).map fun i => Value.int .i64 (y i)).toArray 3
theorem IntBlk.cell {w : World} {S n : Nat} {y : Nat → Int} (h : IntBlk w S n y) {i : Nat} (hi : i < n) : w.cell? ⟨S, i, none⟩ = some (.int .i64 (y i)) := by
  rw [Blk.cell h]; simp [hi]
theorem IntBlk.set {w : World} {S n : Nat} {y : Nat → Int} (h : IntBlk w S n y) (k : Nat) (v : Int) : IntBlk (w.setCell ⟨S, k, none⟩ (.int .i64 v)) S n (fun i => if i = k then v else y i) := by
  refine (Blk.set h k _).of ?_
  apply Array.ext_getElem?
  intro i
  by_cases e : k = i
  · subst e
    by_cases hk : k < n <;> simp [hk]
  · have e' : ¬ i = k := fun x => e x.symm
    by_cases hi : i < n <;> simp [e, e', hi]
theorem intBlk_made (w : World) (n : Nat) : IntBlk (w.alloc (.cells (madeCells #[.int .i64 0] n) 3)) w.heap.size n (fun _ => 0) := by
  refine (Blk.new w _ _).of ?_
  apply Array.toList_inj.1
  rw [toList_madeCells_one]
  apply List.ext_getElem?
  intro i
  by_cases hi : i < n <;> simp [hi]
theorem IntBlk.waits {w : World} {b S n : Nat} {y : Nat → Int} (h : IntBlk w S n y) (hne : S ≠ b) : WaitsAt w b S 0 n y := ⟨hne, Blk.lt h, fun i hi => by rw [Nat.zero_add]; exact h.cell hi⟩

structure PFair (w wr : World) (b g cap n : Nat) (z : Nat → Int) (k : Nat) (c : Int) : Prop where
  p : PickAt wr b g cap n z k c
  f : PickFit n z k c
  bel : Below w.heap.size w wr
theorem PFair.below {w wr wr' : World} {b g cap n : Nat} {z : Nat → Int} {k : Nat} {c : Int} (h : PFair w wr b g cap n z k c) (hb : Below wr.heap.size wr wr') : PFair w wr' b g cap n z k c :=
  ⟨h.p.below hb, h.f, h.bel.trans (hb.mono h.bel.size)⟩
theorem PickAt.setOther {w : World} {b g cap n : Nat} {ws : Nat → Int} {k : Nat} {c : Int} (h : PickAt w b g cap n ws k c) {S m : Nat} {y : Nat → Int} (hne : S ≠ b) (hI : IntBlk w S m y) {i : Nat} (v : Value) (hg : g ≠ S := by assumption) : PickAt (w.setCell ⟨S, i, none⟩ v) b g cap n ws k c :=
  ⟨h.blk.setOther (by simpa using hne) _, h.ne, by simpa using h.lt, fun i' hi => by
    have := h.cell i' hi
    simpa [World.cell?_setCell_other, hg, hg.symm, hne] using this⟩
/-- credit never above the weight -/
theorem NextStep.credit {z ws : Nat → Int} {n k : Nat} {c : Int} {j : Nat} {c' : Int} (h : NextStep z ws n k c j c') (hc : c ≤ ws k) : c' ≤ ws j := by
  rcases h with ⟨_, _, rfl, rfl⟩ | ⟨_, _, rfl⟩ <;> omega

set_option maxRecDepth 100000 in
set_option maxHeartbeats 4000000 in
theorem pickFair_walk (w : World) (a0 : Option Addr) (len0 cap0 : Nat) (z0 : List Int) (hz0 : IsRow .i64 8 w a0 len0 cap0 z0) (q : Int) (hq0 : -9223372036854775808 ≤ q) (hq1 : q ≤ 9223372036854775807)
    (a1 : Option Addr) (len1 cap1 : Nat) (A : Nat → Option Addr) (L C : Nat → Nat) (Z : Nat → Nat → Int) (hz1 : IsRows w a1 len1 A L C Z) :
    Calls Try.prog 3 #[.slice a0 len0 cap0, .int .i64 q, .slice a1 len1 cap1] w fun e w' => e = .returned (.bool true) ∧ Below w.heap.size w w' := by
  have HZ0 := Lib.hid hz0.rowAt
  have HZ1 := Lib.hid hz1
  have hl1 : len1 * 24 ≤ 140737488351232 := by
    rcases hz1 with h | ⟨_, _, _, h, _⟩ <;> omega
  generalize hz : (fun i => z0.getD i 0) = z at HZ0
  clear hz0 hz1 hz z0
  go_enter Try.func3, Try.ntmps3
  go_wp2_with fail
  refine (pickFact_any _).mono ?_
  rintro e w1 ⟨rfl, hB1⟩
  have HB1 := Lib.hid hB1
  have HZ2 := Lib.hid (HZ0.out.below hB1)
  clear hB1
  go_wp2_with fail
  refine (new_any a0 len0 cap0 z _ HZ2.out).mono ?_
  rintro e w2 (⟨code, _, rfl, rfl⟩ | ⟨b, g, cap, rfl, hb, hg, hp, hf, hB2⟩)
  · go_wp2
    go_ret
    exact ⟨rfl, HB1.out⟩
  · have hs1 := HB1.out.size
    have hbB : w.heap.size ≤ b := by omega
    have n0 := hf.n0
    have n8 := hf.n8
    have HF := Lib.hid (show PFair w w2 b g cap len0 z 0 (z 0) from ⟨hp, hf, HB1.out.trans (hB2.mono hs1)⟩)
    have Hw := Lib.hid hf.w0
    clear hB2 hp hf hb hg hs1 HZ2 HB1
    obtain ⟨b0, off0, rfl, hb0, hc0⟩ := HZ0.out.2.2.resolve_left (by omega)
    have Hc0 := Lib.hid hc0
    clear hc0 HZ0
    go_wp2_with fail
    refine (pick_any q len0 _ hq0 hq1 (by omega) (by omega)).mono ?_
    rintro e w' ⟨rfl, rfl⟩
    have p0 := pickOf_0 q len0 (by omega)
    have p1 := pickOf_lt q len0 (by omega)
    generalize pickOf q len0 = v at p0 p1 ⊢
    obtain ⟨v, rfl⟩ := Int.eq_ofNat_of_zero_le p0
    have hv : v < len0 := by omega
    go_wp2_with fail
    go_loop [12, 13] (fun s i => ∃ t : Nat, t ≤ len0 ∧ i = .int .i64 t ∧ s = .int .i64 (sumN z t)) (fun _ i => len0 - (intOf i).toNat)
    case atStart => exact ⟨0, Nat.zero_le _, rfl, rfl⟩
    case round =>
      obtain ⟨t, ht, rfl, rfl⟩ := hrel
      have hsum : 0 ≤ sumN z t ∧ sumN z t ≤ 16 * t := by
        have : ∀ m, m ≤ len0 → 0 ≤ sumN z m ∧ sumN z m ≤ 16 * m := by
          intro m
          induction m with
          | zero => intro _; simp [sumN]
          | succ m ih =>
            intro hm
            have := ih (by omega)
            have := Hw.out m (by omega)
            simp only [sumN]; omega
        exact this t ht
      have hs0 := hsum.1
      have hs1 := hsum.2
      by_cases hlt : t < len0
      · have hct := (HF.out.bel.cell (p := ⟨b0, off0 + t, none⟩) hb0).trans (Hc0.out t hlt)
        have hzt := Hw.out t hlt
        have hzt0 := hzt.1
        have hzt1 := hzt.2
        clear hzt hsum
        have e : sumN z t + z t = sumN z (t + 1) := rfl
        have E := Lib.hid e
        clear e
        generalize hsv : sumN z t = sv at *
        have HSV := Lib.hid hsv
        clear hsv
        go_wp2
        go_round
        case rel => exact ⟨t + 1, by omega, by go_num, by rw [E.out]⟩
        case measure => simp [intOf]; omega
      · obtain rfl : len0 = t := by omega
        clear hsum
        have Hlb := Lib.hid (fun (k : Nat) (c : Int) (hf : PickFit len0 z k c) (hc : c ≤ z k) => left_bound hf hv hc (by have := hf.c0; omega))
        generalize hall : sumN z len0 = all at *
        have HA := Lib.hid hall
        clear hall
        go_wp2_with fail
        go_loopw [14, 15] (fun s i wr => ∃ (t k : Nat) (c sn : Int), t ≤ len1 ∧ i = .int .i64 t ∧ s = .int .i64 sn ∧ 0 ≤ sn ∧ sn + left z len0 v k c ≤ all - 1 ∧ 0 ≤ left z len0 v k c ∧ c ≤ z k ∧ PFair w wr b g cap len0 z k c) (fun _ i _ => len1 - (intOf i).toNat)
        case atStart => exact ⟨0, 0, z 0, 0, Nat.zero_le _, rfl, rfl, Int.le_refl _, by have := Hlb.out 0 (z 0) HF.out.f (Int.le_refl _); omega, left_nonneg HF.out.f hv, Int.le_refl _, HF.out⟩
        case round =>
          obtain ⟨t, k, c, sn, ht, rfl, rfl, hsn0, hsn1, hl0, hck, hF⟩ := hrel
          have HF2 := Lib.hid hF
          have HL := Lib.hid hsn1
          have HL0 := Lib.hid hl0
          have Hck := Lib.hid hck
          have hsn2 : sn ≤ all := by omega
          clear hF hsn1 hl0 hck HF
          by_cases hlt2 : t < len1
          · obtain ⟨b1, off1, rfl, _, hb1, hr⟩ := HZ1.out.resolve_left (by omega)
            obtain ⟨hcell, hrow⟩ := hr t hlt2
            have Hcell := Lib.hid hcell
            have Hrow := Lib.hid hrow
            clear hcell hrow hr HZ1
            generalize A t = At at *
            generalize L t = Lt at *
            generalize C t = Ct at *
            generalize Z t = Zt at *
            have hmk := fun (w : World) => run_make_row' (P := Try.prog) 22 3 (.int .i64 0) 8 Try.underlying22 (by kernel_rfl) rfl .i64 .i64 len0 (by omega) (by omega) w
            have HI := Lib.hid (intBlk_made wr len0)
            have HF3 := Lib.hid (HF2.out.below ((Below.refl _ _).alloc (Nat.le_refl _) (.cells (madeCells #[.int .i64 0] len0) 3)))
            go_wp2_with fail
            have hSb : wr.heap.size ≠ b := by have := HF2.out.p.blk.lt; omega
            have hSw : w.heap.size ≤ wr.heap.size := HF2.out.bel.size
            have hgS : g ≠ wr.heap.size := by have := HF2.out.p.lt; omega
            generalize (wr.alloc (.cells (madeCells #[.int .i64 0] len0) 3)) = w3 at *
            generalize wr.heap.size = S at *
            clear hmk
            go_loopw [17] (fun i wr => ∃ (kk : Nat) (y : Nat → Int), kk ≤ len0 ∧ i = .int .i64 kk ∧ (∀ i, 0 ≤ y i ∧ y i ≤ 2) ∧ IntBlk wr S len0 y ∧ PFair w wr b g cap len0 z k c) (fun i _ => len0 - (intOf i).toNat)
            case atStart => exact ⟨0, _, Nat.zero_le _, rfl, fun i => by omega, HI.out, HF3.out⟩
            case round =>
              obtain ⟨kk, y, hkk, rfl, hy, hI, hF⟩ := hrel
              have HI4 := Lib.hid hI
              have HF4 := Lib.hid hF
              have Hy := Lib.hid hy
              have hcs := (hF.bel.cell (p := ⟨b1, off1 + t, none⟩) hb1).trans Hcell.out
              clear hI hF hy HI HF3
              by_cases hA : kk < len0 ∧ kk < Lt
              · obtain ⟨hA1, hA2⟩ := hA
                obtain ⟨_, hwf, h | ⟨b', off', rfl, hb', hcc⟩⟩ := Hrow.out
                · exfalso; omega
                have hx := (HF4.out.bel.cell (p := ⟨b', off' + kk, none⟩) hb').trans (hcc kk hA2)
                have hwk := bounds_i64 (hwf kk hA2)
                have hwk0 := hwk.1
                have hwk1 := hwk.2
                have hc4 := HI4.out.cell hA1
                have hf4 : wr.frozen? ⟨S, kk, none⟩ = false := Blk.free HI4.out kk
                clear hwf hcc hwk
                generalize Zt kk = x at hx hwk0 hwk1
                go_wp2_with fail
                refine (pick_any x 3 _ hwk0 hwk1 (by omega) (by omega)).mono ?_
                rintro e w' ⟨rfl, rfl⟩
                have r0 := pickOf_0 x 3 (by omega)
                have r1 := pickOf_lt x 3 (by omega)
                generalize pickOf x 3 = xv at r0 r1 ⊢
                have HI5 := Lib.hid (HI4.out.set kk xv)
                have HF5 := Lib.hid (show PFair w (wr.setCell ⟨S, kk, none⟩ (.int .i64 xv)) b g cap len0 z k c from ⟨HF4.out.p.setOther hSb HI4.out _, HF4.out.f, HF4.out.bel.setCell (by simpa using hSw) _⟩)
                go_wp2
                go_roundw
                case rel => exact ⟨kk + 1, _, by omega, by go_num, fun i => by have := Hy.out i; split <;> omega, HI5.out, HF5.out⟩
                case measure => simp [intOf]; omega
              · have hcv := HI4.out.cell hv
                have hfv : wr.frozen? ⟨S, v, none⟩ = false := Blk.free HI4.out v
                have hyv := Hy.out v
                have hyv0 := hyv.1
                have hyv1 := hyv.2
                have HI5 := Lib.hid (HI4.out.set v (1 + y v))
                have HF5 := Lib.hid (show PFair w (wr.setCell ⟨S, v, none⟩ (.int .i64 (1 + y v))) b g cap len0 z k c from ⟨HF4.out.p.setOther hSb HI4.out _, HF4.out.f, HF4.out.bel.setCell (by simpa using hSw) _⟩)
                have N := Lib.hid (next_go b g cap len0 z k c S 0 len0 _ _ HF5.out.p HF5.out.f (HI5.out.waits hSb) (fun i hi => by have := Hy.out i; split <;> omega) ⟨v, hv, by simp; omega⟩)
                by_cases hk1 : kk < len0
                · have hk2 : ¬ kk < Lt := fun h => hA ⟨hk1, h⟩
                  clear hA hyv
                  go_wp2_with fail
                  refine N.out.mono ?_
                  rintro e w6 ⟨j, c', hst, rfl, hp6, hk6⟩
                  have hfit := hst.fit HF5.out.f
                  have hjn := hfit.1.kn
                  have hpos := hfit.2
                  have hcj := (HI5.out.waits hSb).kept hk6
                  have hcj2 := hcj.cell j hjn
                  rw [Nat.zero_add] at hcj2
                  have HF6 := Lib.hid (show PFair w w6 b g cap len0 z j c' from ⟨hp6, hfit.1, HF5.out.bel.trans (hk6.below w.heap.size HF5.out.bel.size (fun k' e => by omega))⟩)
                  have Hst := Lib.hid hst
                  have Hck2 := Lib.hid (hst.credit Hck.out)
                  clear hp6 hk6 hst hfit N hcj
                  generalize (if j = v then 1 + y v else y j) = yj at *
                  have hyj : (yj == 0) = false := by simp; omega
                  have hyj2 : (yj != 0) = true := by simp; omega
                  by_cases hjv : j = v
                  · have Hl := Lib.hid (Hlb.out j c' HF6.out.f Hck2.out)
                    have HLn := Lib.hid (left_nonneg HF6.out.f hv)
                    have hall0 : 1 ≤ all := by have := Hl.out; have := HLn.out; omega
                    subst hjv
                    go_wp2
                    go_roundw
                    case rel => exact ⟨t + 1, j, c', 0, by omega, by go_num, rfl, Int.le_refl _, by have := Hl.out; omega, HLn.out, Hck2.out, HF6.out⟩
                    case measure => simp [intOf]; omega
                  · have hs5 := left_step HF5.out.f hv (by simp; omega) Hst.out hjv
                    have hL := HL.out
                    have hL2 := left_nonneg HF6.out.f hv
                    have hle : sn + 1 < all := by omega
                    have HL5 := Lib.hid hs5
                    have HLn := Lib.hid hL2
                    have d1 : ((j : Int) == (v : Int)) = false := by simp; omega
                    have d2 : decide (all ≤ sn + 1) = false := by simp; omega
                    have d3 : (j == v) = false := by simpa using hjv
                    clear hs5 hL hL2 hjv
                    go_wp2
                    go_roundw
                    case rel => exact ⟨t + 1, j, c', sn + 1, by omega, by go_num, by go_num, by omega, by have := HL.out; have := HL5.out; omega, HLn.out, Hck2.out, HF6.out⟩
                    case measure => simp [intOf]; omega
                · clear hA hyv
                  go_wp2_with fail
                  refine N.out.mono ?_
                  rintro e w6 ⟨j, c', hst, rfl, hp6, hk6⟩
                  have hfit := hst.fit HF5.out.f
                  have hjn := hfit.1.kn
                  have hpos := hfit.2
                  have hcj := (HI5.out.waits hSb).kept hk6
                  have hcj2 := hcj.cell j hjn
                  rw [Nat.zero_add] at hcj2
                  have HF6 := Lib.hid (show PFair w w6 b g cap len0 z j c' from ⟨hp6, hfit.1, HF5.out.bel.trans (hk6.below w.heap.size HF5.out.bel.size (fun k' e => by omega))⟩)
                  have Hst := Lib.hid hst
                  have Hck2 := Lib.hid (hst.credit Hck.out)
                  clear hp6 hk6 hst hfit N hcj
                  generalize (if j = v then 1 + y v else y j) = yj at *
                  have hyj : (yj == 0) = false := by simp; omega
                  have hyj2 : (yj != 0) = true := by simp; omega
                  by_cases hjv : j = v
                  · have Hl := Lib.hid (Hlb.out j c' HF6.out.f Hck2.out)
                    have HLn := Lib.hid (left_nonneg HF6.out.f hv)
                    have hall0 : 1 ≤ all := by have := Hl.out; have := HLn.out; omega
                    subst hjv
                    go_wp2
                    go_roundw
                    case rel => exact ⟨t + 1, j, c', 0, by omega, by go_num, rfl, Int.le_refl _, by have := Hl.out; omega, HLn.out, Hck2.out, HF6.out⟩
                    case measure => simp [intOf]; omega
                  · have hs5 := left_step HF5.out.f hv (by simp; omega) Hst.out hjv
                    have hL := HL.out
                    have hL2 := left_nonneg HF6.out.f hv
                    have hle : sn + 1 < all := by omega
                    have HL5 := Lib.hid hs5
                    have HLn := Lib.hid hL2
                    have d1 : ((j : Int) == (v : Int)) = false := by simp; omega
                    have d2 : decide (all ≤ sn + 1) = false := by simp; omega
                    have d3 : (j == v) = false := by simpa using hjv
                    clear hs5 hL hL2 hjv
                    go_wp2
                    go_roundw
                    case rel => exact ⟨t + 1, j, c', sn + 1, by omega, by go_num, by go_num, by omega, by have := HL.out; have := HL5.out; omega, HLn.out, Hck2.out, HF6.out⟩
                    case measure => simp [intOf]; omega
          · go_wp2
            go_ret
            exact ⟨rfl, HF2.out.bel⟩
end Go.Proofs.Ytkehhfgoikbciaa
