/- granarylaw3.ListCovers returns true, and writes nothing that was there. -/
import Derived.Test.YtnapgigemdmigaaSegRow
import Derived.Test.YtnapgigemdmigaaFitsRef
namespace Go.Proofs.Ytnapgigemdmigaa
open Go.RowKit Go.WideShapes
set_option linter.unusedVariables false

set_option maxRecDepth 100000 in
set_option maxHeartbeats 8000000 in
theorem listCovers_walk (w : World) (a : Option Addr) (len cap : Nat) (z : List Int) (hz : IsRow .u8 1 w a len cap z) (first : Int) (f0 : -9223372036854775808 ≤ first) (f1 : first ≤ 9223372036854775807)
    (second : Int) (s0 : -9223372036854775808 ≤ second) (s1 : second ≤ 9223372036854775807) (long : Int) (l0 : -9223372036854775808 ≤ long) (l1 : long ≤ 9223372036854775807) :
    Calls Try.prog 5 #[.slice a len cap, .int .i64 first, .int .i64 second, .int .i64 long] w fun e w' => e = .returned (.bool true) ∧ Below w.heap.size w w' := by
  obtain ⟨xs, rfl, xl, xb, hx⟩ := hz.bytes
  clear hz
  have Xb := Lib.hid xb
  have Hx := Lib.hid hx
  clear xb hx
  by_cases hbig : 16384 < xs.length
  · have HF := Lib.hid (filled_big a xs.length cap w hbig (by omega))
    go_enter Try.func5, Try.ntmps5
    go_wp2_with fail
    refine HF.out.mono ?_
    rintro e w' ⟨rfl, rfl⟩
    have d1 : decide (16384 < (xs.length : Int)) = true := decide_eq_true (by omega)
    clear HF
    go_wp2
    go_ret
    exact ⟨rfl, Below.refl _ _⟩
  have HF := Lib.hid (filled_ok a cap xs w (by omega) (Hx.out _ (Below.refl _ _)) Xb.out)
  go_enter Try.func5, Try.ntmps5
  go_wp2_with fail
  refine HF.out.mono ?_
  rintro e w1 ⟨rfl, hm, hbel⟩
  have hmb := hm.body.lt
  have hmh := hm.head.lt
  have HM := Lib.hid hm
  have HB := Lib.hid hbel
  clear hm hbel HF
  obtain ⟨⟨k, segs⟩, hR⟩ : ∃ R, walkRes xs first second long = R := ⟨_, rfl⟩
  have HA := Lib.hid (walk_any (w.heap.size + 1) w.heap.size xs first second long w1 HM.out f0 f1 s0 s1 l0 l1)
  rw [hR] at HA
  have HR := Lib.hid hR
  clear hR
  go_wp2_with fail
  refine HA.out.mono ?_
  rintro e w2 ⟨hbel2, hbad, hok⟩
  by_cases hk : k = 0
  · subst hk
    obtain ⟨v, rfl, ho⟩ := hok rfl
    obtain ⟨av, cv, rfl, hsr⟩ := segRd_any ho
    obtain ⟨hl1, hl2, hsok, hsum, n0, more, hsegs, hal⟩ := walkRes_ok _ _ _ _ _ HR.out
    have hln : segs.length ≤ 2048 := by have := segOk_long hsok; omega
    have hpos : 0 < segs.length := by rw [hsegs]; simp
    have hfirst : (segs.getD 0 (0, 0)).1 = first := by rw [hsegs]; rfl
    have HAl : Hid (∀ i, 0 < i → i < segs.length → (segs.getD i (0, 0)).1 % 64 = 0) := fun i hi hi2 => by
      subst hsegs
      obtain ⟨j, rfl⟩ : ∃ j, i = j + 1 := ⟨i - 1, by omega⟩
      have hj : j < more.length := by simpa using hi2
      refine hal _ ?_
      simp [List.getD, hj]
    have HSR := Lib.hid hsr
    have HSok := Lib.hid hsok
    have HSum := Lib.hid hsum
    have HFi := Lib.hid hfirst
    have HB2 := Lib.hid (HB.out.trans (hbel2.mono HB.out.size))
    have HM2 := Lib.hid (HM.out.below hbel2)
    have hs2 := HB2.out.size
    clear hsr hsok hsum hfirst hsegs hal hbel2 hbad hok ho HA HM HB HR
    go_wp2_with fail
    go_loopw [13, 14] (fun s i wr => ∃ j : Nat, j ≤ segs.length ∧ i = .int .i64 j ∧ s = .int .i64 (segSum (segs.take j)) ∧ Below w2.heap.size w2 wr) (fun _ i _ => segs.length - (intOf i).toNat)
    case atStart => exact ⟨0, Nat.zero_le _, rfl, rfl, Below.refl _ _⟩
    case round =>
      obtain ⟨j, hj, rfl, rfl, hbr⟩ := hrel
      by_cases hlt : j < segs.length
      · obtain ⟨sb, off, rfl, hsb, hcell⟩ := HSR.out.resolve_left (by omega)
        have HRg := Lib.hid (SegRd.range (k := j) hcell hsb hbr hlt)
        have hok := HSok.out (segs.getD j (0, 0)) (by simp [List.getD, hlt])
        have hal : 0 < j → (segs.getD j (0, 0)).1 % 64 = 0 := fun h => HAl.out j h hlt
        have hst := segSum_take segs j hlt
        have hb1 := segSum_bd HSok.out j
        have hb2 := segSum_bd HSok.out (j + 1)
        rw [HSum.out] at hb1 hb2
        have HBr := Lib.hid hbr
        clear hcell hbr HSR
        generalize segs.getD j (0, 0) = s at *
        obtain ⟨x, n⟩ := s
        obtain ⟨hf, hn1, hpg⟩ := hok
        simp only [] at hf hn1 hpg hal hst HRg
        have hf' := (memFits_iff _ _ _).1 hf
        obtain ⟨hx0, hn0', hnL, hxL⟩ := hf'
        have HFit := Lib.hid (ref_fits xs.length x n (wr.alloc (.cells #[.int .i64 x, .int .i64 n] 41)) (by omega) (by omega) (by omega) (by omega) (by omega))
        rw [hf] at HFit
        have HSt := Lib.hid hst
        clear hf hst
        generalize segSum (segs.take j) = sm at *
        have HBa := Lib.hid (HBr.out.alloc HBr.out.size (.cells #[.int .i64 x, .int .i64 n] 41))
        go_wp2_with (with_reducible refine wpList_load_mid rfl 41 (.tmp 49) rfl sb (off + j * 2) rfl [Value.int .i64 x, Value.int .i64 n] _ HRg.out Try.underlying41 rfl (by kernel_rfl) ?_)
        refine HFit.out.mono ?_
        rintro e w' ⟨rfl, rfl⟩
        clear HFit HRg
        have hq0 : 0 ≤ (x + n - 1) / 64 := by omega
        have d1 : decide (n < 1) = false := decide_eq_false (by omega)
        have d2 : (x / 64 != (x + n - 1) / 64) = false := by simp; exact hpg
        have e1 : IntKind.i64.wrap (x + n) = x + n := IntWalk.i64_in _ (by omega)
        have e2 : IntKind.i64.wrap (x + n - 1) = x + n - 1 := IntWalk.i64_in _ (by omega)
        by_cases hj0 : 0 < j
        · have d3 : decide ((0 : Int) < (j : Int)) = true := decide_eq_true (by omega)
          have d4 : (x % 64 != 0) = false := by simp; exact hal hj0
          clear hal hpg
          go_wp2
          go_roundw
          case rel => exact ⟨j + 1, by omega, by go_num, by rw [HSt.out], HBa.out⟩
          case measure => simp [intOf]; omega
        · have d3 : decide ((0 : Int) < (j : Int)) = false := decide_eq_false (by omega)
          clear hal hpg
          go_wp2
          go_roundw
          case rel => exact ⟨j + 1, by omega, by go_num, by rw [HSt.out], HBa.out⟩
          case measure => simp [intOf]; omega
      · obtain rfl : j = segs.length := by omega
        have hsum : segSum (segs.take segs.length) = long := by rw [List.take_length]; exact HSum.out
        obtain ⟨ds, hds, hdl⟩ := gatherRes_ok xs segs [] (fun s hs => (HSok.out s hs).1)
        have hG := gather_any (w.heap.size + 1) w.heap.size xs av cv segs wr (HM2.out.below hbr) (HSR.out.below hbr) (fun s hs => by
          have h1 := (memFits_iff _ _ _).1 (HSok.out s hs).1
          omega) (by omega)
        rw [hds] at hG
        have HG := Lib.hid hG
        have hdl' : (ds.length : Int) = long := by rw [hdl, HSum.out]; simp
        obtain ⟨sb, off, rfl, hsb, hcell⟩ := HSR.out.resolve_left (by omega)
        have hc0 := (hcell 0 hpos).1
        rw [HFi.out] at hc0
        have hc1 : wr.cell? ⟨sb, off + 0 * 2, none⟩ = some (.int .i64 first) := (hbr.cell (p := ⟨sb, off + 0 * 2, none⟩) hsb).trans hc0
        have hsb1 : sb < wr.heap.size := Nat.lt_of_lt_of_le hsb hbr.size
        rw [hsum]
        have HDl := Lib.hid hdl'
        have HBr := Lib.hid (HB2.out.trans (hbr.mono HB2.out.size))
        have HC1 := Lib.hid hc1
        clear hG hds hdl hdl' hsum hcell hc0 hc1 hbr HSR HSok HSum HFi HAl
        go_wp2_with fail
        refine HG.out.mono ?_
        rintro e w4 ⟨hb4, v4, rfl, ho4⟩
        obtain ⟨av4, cv4, rfl⟩ : ∃ a c, v4 = .slice a ds.length c := by
          obtain ⟨_, ⟨rfl, h0⟩ | ⟨g, cap, cur, rfl, _⟩⟩ := ho4
          · exact ⟨none, 0, by rw [h0]⟩
          · exact ⟨_, _, rfl⟩
        have hc4 : w4.cell? ⟨sb, off, none⟩ = some (.int .i64 first) := by
          have := (hb4.cell (p := ⟨sb, off + 0 * 2, none⟩) hsb1).trans HC1.out
          simpa using this
        have HB4 := Lib.hid (HBr.out.trans (hb4.mono HBr.out.size))
        have d1 : ((ds.length : Int) == long) = true := by simp; exact HDl.out
        clear hb4 ho4 HG HC1
        go_wp2
        go_ret
        exact ⟨rfl, HB4.out⟩
  · have hb := hbad hk
    simp only [] at hb
    subst hb
    have HB2 := Lib.hid (HB.out.trans (hbel2.mono HB.out.size))
    clear hbad hok hbel2 HA HR
    go_wp2
    go_ret
    exact ⟨rfl, HB2.out⟩
end Go.Proofs.Ytnapgigemdmigaa
