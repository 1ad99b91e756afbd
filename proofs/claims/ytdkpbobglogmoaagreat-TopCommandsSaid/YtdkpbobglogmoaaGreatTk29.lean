/- Parts of the proof of TopCommandsProof: TopWalk TopArr Prot ProtP ProtR ProtC. -/
import Derived.Test.YtdkpbobglogmoaaGreatProg
import Derived.IntWalk
import Derived.Great.BuildSlice
import Derived.Maps.AppendAt
import Derived.Test.YtdkpbobglogmoaaGreatTk14
import Derived.Test.YtdkpbobglogmoaaGreatTk21
import Derived.Test.YtdkpbobglogmoaaGreatTk25
import Derived.Test.YtdkpbobglogmoaaGreatTk28
set_option linter.unusedVariables false
set_option linter.unusedSimpArgs false
set_option maxRecDepth 100000
set_option maxHeartbeats 32000000
namespace Go.Proofs.YtdkpbobglogmoaaGreat
open Go.RowKit Go.WideShapes Go
noncomputable def rest3 : Code := match Tryz.f3.body.getD .skip with | .seq _ (.seq _ x) => x | _ => .skip
theorem MemAt.keep {w w' : World} {b mb cb : Nat} {bs : List Int} (h : MemAt w b mb bs) (hk : Keep (· = cb) w w') (h1 : b ≠ cb) (h2 : mb ≠ cb) : MemAt w' b mb bs :=
  ⟨hk.blk h.head h1, hk.blk h.body h2, h.apart, h.most, h.byte⟩
theorem map_cell_b (bs : List Int) (i : Nat) (h : i < bs.length) : ((bs.map (Value.int .u8)).toArray)[i]? = some (.int .u8 (bs.getD i 0)) := by
  simp [List.getD, List.getElem?_eq_getElem h]
@[reducible] def topT (nn at_ offset long x0 x1 x2 x3 x4 x5 : Int) (a' : Option Addr) (ps : List Int) (cap' cb : Nat) : Array Value := #[.int .i64 nn, .int .i64 at_, .slice a' ps.length cap', .int .i64 offset, .int .i64 long, .agg #[.int .i64 x0, .int .i64 x1, .int .i64 x2, .int .i64 x3, .int .i64 x4, .int .i64 x5], undef, undef, undef, undef, undef, .pointer (some ⟨cb, 0, none⟩), .bool false, .bool true, undef, undef, undef, undef, undef, undef, undef, undef, undef, .bool true, undef, undef, undef, undef, undef, undef, undef, undef, undef, undef, undef, undef, undef, undef, undef, undef, undef, undef, undef, undef, undef, undef, undef, undef, undef, undef, undef, undef, undef, undef, undef, undef, undef, undef, undef, undef, undef, undef, undef, undef, undef, undef, undef, undef, undef, undef, undef, undef, undef, undef, undef, undef, undef, undef, undef, undef, undef, undef, undef, undef, undef, undef, undef, undef, undef, undef, undef, undef, undef, undef, undef, undef, undef, undef, undef, undef, undef, undef, undef, undef, undef, undef, undef, undef, undef]
theorem rest_wp (w : World) (nn at_ offset long x0 x1 x2 x3 x4 x5 : Int) (n0 : I64 nn) (a0 : I64 at_) (o0 : I64 offset) (l0 : I64 long) (b0 : I64 x0) (b1 : I64 x1) (b2 : I64 x2) (b3 : I64 x3) (a' : Option Addr) (ps : List Int) (cap' cb : Nat) (pcap : ps.length ≤ cap') (pl : ps.length * 8 ≤ 140737488351232)
    (hpb : ∀ x ∈ ps, I64 x) (hp : ps.length = 0 ∨ ∃ b off, a' = some ⟨b, off, none⟩ ∧ b ≠ cb ∧ b < w.heap.size ∧ ∀ i, i < ps.length → w.cell? ⟨b, off + i, none⟩ = some (.int .i64 (ps.getD i 0))) (hcb : Blk w cb #[.int .i64 x0, .int .i64 x1, .int .i64 x2, .int .i64 x3, .int .i64 x4, .int .i64 x5] 24) :
    rest3.wp Tryz.prog (fun e a w => (e = .normal ∨ e = .ret) ∧ a.tmps.getD 12 undef = .bool true) ⟨topT nn at_ offset long x0 x1 x2 x3 x4 x5 a' ps cap' cb, []⟩ w := by
  have N0 := Lib.hid n0
  have A0 := Lib.hid a0
  have O0 := Lib.hid o0
  have L0 := Lib.hid l0
  have B0 := Lib.hid b0
  have B1 := Lib.hid b1
  have B2 := Lib.hid b2
  have B3 := Lib.hid b3
  have Pb := Lib.hid hpb
  have Hp := Lib.hid hp
  have Hcb := Lib.hid hcb
  have hcl := hcb.lt
  clear n0 a0 o0 l0 b0 b1 b2 b3 hpb hp hcb
  simp only [rest3, Tryz.f3, Option.getD_some]
  by_cases hn : nn < 0 ∨ 16384 < nn
  · have HM := Lib.hid (fun w => mem_new_bad nn w hn)
    unfold memRangeErr at HM
    clear hn
    go_wp2_with fail
    refine (HM.out _).mono ?_
    rintro e w' ⟨rfl, rfl⟩
    go_wp2
  obtain ⟨n, rfl⟩ := Int.eq_ofNat_of_zero_le (show 0 ≤ nn by omega)
  have HM := Lib.hid (fun w => mem_new_ok n w (by omega))
  go_wp2_with fail
  refine (HM.out _).mono ?_
  rintro e w1 ⟨rfl, hm1, hb1⟩
  have HB1 := Lib.hid hb1
  have hs1 := hb1.size
  have hml := hm1.head.lt
  have HNr : Hid (NumsRd w1 w.heap.size a' cap' ps) := ⟨pcap, Hp.out.imp id (fun ⟨b, off, e1, e2, e3, e4⟩ => ⟨b, off, e1, by omega, Nat.lt_of_lt_of_le e3 hs1, fun i hi => (hb1.cell (p := ⟨b, off + i, none⟩) e3).trans (e4 i hi)⟩)⟩
  have HBd := Lib.hid (build_any (w.heap.size + 1) w.heap.size (List.replicate n 0) at_ a' cap' offset long ps w1 hm1 HNr.out A0.out.1 A0.out.2 Pb.out (by omega) O0.out.1 O0.out.2 L0.out.1 L0.out.2)
  have Hcb1 := Lib.hid ((Keep.ofBelow (S := fun _ => False) hb1 (fun k h1 h2 => absurd h1 (by omega))).blk Hcb.out (fun h => h))
  clear hm1 hb1 HM HNr Hcb
  obtain ⟨B, hB⟩ : ∃ B, buildRes (List.replicate n 0) at_ ps offset long = B := ⟨_, rfl⟩
  rw [hB] at HBd
  have HBe := Lib.hid hB
  clear hB
  go_wp2_with fail
  refine HBd.out.mono ?_
  rintro e w2 ⟨rfl, hm2, hk2⟩
  by_cases he : B.e = 0
  case neg =>
    rw [show errV2 B.e = .iface 54 (.int .i64 B.e) by unfold errV2; rw [if_neg he]]
    clear hm2 hk2 HBd he HBe
    go_wp2
  rw [show errV2 B.e = .nilIface by unfold errV2; rw [if_pos he]]
  have hwb := walk_built (List.replicate n 0) (by simp; omega) at_ ps offset long (by rw [HBe.out]; exact he)
  have huv := build_uv (List.replicate n 0) at_ ps offset long (by rw [HBe.out]; exact he)
  rw [HBe.out] at hwb huv
  obtain ⟨q1, q2, q3, q4, hbl, y0, t, hpx, hfp, hwalk⟩ := hwb
  obtain ⟨hu, hv, hpg⟩ := huv
  have hn1 : 1 ≤ ps.length := by rw [hpx]; simp
  have hsegs : (y0 + offset, min (64 - offset) long) :: segsOf t (long - min (64 - offset) long) = builtSegs ps offset long := by rw [hpx]; rfl
  rw [hsegs] at hwalk
  have hub : I64 B.u := by
    have h1 := Pb.out (ps.getD 0 0) (by simp [List.getD, show 0 < ps.length by omega])
    have h2 := (pageOk_iff _).1 (hpg (ps.getD 0 0) (by simp [List.getD, show 0 < ps.length by omega]))
    unfold I64 at *
    omega
  have hvb : I64 B.v := by
    rcases hv with h | h | h
    · unfold I64; omega
    · by_cases h2 : 1 < ps.length
      · have h1 := Pb.out (ps.getD 1 0) (by simp [List.getD, h2])
        unfold I64 at *
        omega
      · have : ps.getD 1 0 = 0 := by simp [List.getD, show ps.length ≤ 1 by omega]
        unfold I64
        omega
    · rw [h]; exact A0.out
  have hk3 : Keep (· = cb) w2 ((w2.setCell ⟨cb, 4, none⟩ (.int .i64 B.u)).setCell ⟨cb, 5, none⟩ (.int .i64 B.v)) := ((Keep.refl (· = cb) w2).setCell (p := ⟨cb, 4, none⟩) (.inl rfl) _).setCell (p := ⟨cb, 5, none⟩) (.inl rfl) _
  have hc2 := hk2.blk Hcb1.out (show ¬ cb = w.heap.size by omega)
  have hc3 : Blk ((w2.setCell ⟨cb, 4, none⟩ (.int .i64 B.u)).setCell ⟨cb, 5, none⟩ (.int .i64 B.v)) cb #[.int .i64 x0, .int .i64 x1, .int .i64 x2, .int .i64 x3, .int .i64 B.u, .int .i64 B.v] 24 := ((hc2.set 4 (.int .i64 B.u)).set 5 (.int .i64 B.v)).of (by simp)
  have c4 := hc2.cell 4
  have c5 := (hc2.set 4 (.int .i64 B.u)).cell 5
  have f4 := hc2.free 4
  have f5 := (hc2.set 4 (.int .i64 B.u)).free 5
  simp only [List.getElem?_toArray, List.getElem?_cons_zero, List.getElem?_cons_succ, List.setIfInBounds_toArray, List.set_cons_succ, List.set_cons_zero] at c4 c5
  have HM3 := Lib.hid (hm2.keep hk3 (by omega) (by omega))
  have HK3 := Lib.hid ((Keep.ofBelow (S := fun k => k = w.heap.size ∨ k = cb) HB1.out (fun k h1 h2 => absurd h1 (by omega))).trans ((hk2.mono fun k _ h => .inl h).trans (hk3.mono fun k _ h => .inr h)))
  have Hc3 := Lib.hid hc3
  have HWk := Lib.hid hwalk
  have HPg := Lib.hid hpg
  have HBl := Lib.hid hbl
  have d0 := hc3.cell 0
  have d1 := hc3.cell 1
  have d2 := hc3.cell 2
  have d3 := hc3.cell 3
  have d4 := hc3.cell 4
  have d5 := hc3.cell 5
  simp only [List.getElem?_toArray, List.getElem?_cons_zero, List.getElem?_cons_succ] at d0 d1 d2 d3 d4 d5
  have HE := Lib.hid (cmd_encode x0 x1 x2 x3 B.u B.v ((w2.setCell ⟨cb, 4, none⟩ (.int .i64 B.u)).setCell ⟨cb, 5, none⟩ (.int .i64 B.v)) B0.out B1.out B2.out B3.out hub hvb)
  unfold cmdV at HE
  clear hwalk hpg hbl hfp hsegs hpx hu hv hm2 hk2 HBd hk3 hc2 hc3 he HB1 Hcb1
  generalize hS : builtSegs ps offset long = segs at *
  have HS := Lib.hid hS
  clear hS
  go_wp2_with fail
  refine HE.out.mono ?_
  clear c4 c5 f4 f5 d0 d1 d2 d3 d4 d5
  have HM3' := HM3
  have Hc3' := Hc3
  have HK3' := HK3
  clear HM3 Hc3 HK3 HE
  generalize (w2.setCell ⟨cb, 4, none⟩ (.int .i64 B.u)).setCell ⟨cb, 5, none⟩ (.int .i64 B.v) = w3 at *
  rintro e w4 ⟨hw4, h⟩
  have hk4 := (Keep.ofBelow (S := fun _ => False) hw4 (fun k h1 h2 => absurd h1 (by omega)))
  have Hc4 := Lib.hid (hk4.blk Hc3'.out (fun h => h))
  have HM4 := Lib.hid (HM3'.out.below hw4)
  have HK4 := Lib.hid (HK3'.out.trans (hk4.mono fun _ _ h => h.elim))
  clear hw4 hk4 HM3' Hc3' HK3'
  rcases h with ⟨hfit, g2, hg2, rfl, hb2⟩ | ⟨hno, rfl⟩
  case inr =>
    unfold cmdErr
    clear hno
    go_wp2
  have hs := says_written _ hfit
  have hlen := hs.len
  have HDE := Lib.hid (cmd_decode g2 0 64 (bytesAfter 64 cmdFld (cmdNum x0 x1 x2 x3 B.u B.v) 6) w4 hlen hs.byte hb2.lt (fun i hi => by rw [Nat.zero_add, hb2.cell, map_cell_b _ _ (by rw [hlen]; exact hi)]))
  have Hs := Lib.hid hs
  clear hfit hg2 hs hlen hb2
  go_wp2_with fail
  refine HDE.out.mono ?_
  rintro e w5 ⟨hw5, h⟩
  rcases h with ⟨_, rfl⟩ | ⟨hno, _⟩
  case inr => exact absurd Hs.out.ok hno
  have e0 := Hs.out.num 0 (by omega)
  have e1 := Hs.out.num 1 (by omega)
  have e2 := Hs.out.num 2 (by omega)
  have e3 := Hs.out.num 3 (by omega)
  have e4 := Hs.out.num 4 (by omega)
  have e5 := Hs.out.num 5 (by omega)
  simp only [cmdNum] at e0 e1 e2 e3 e4 e5
  rw [e0, e1, e2, e3, e4, e5]
  have hk5 := (Keep.ofBelow (S := fun _ => False) hw5 (fun k h1 h2 => absurd h1 (by omega)))
  have hc5 := hk5.blk Hc4.out (fun h => h)
  have hm5 := HM4.out.below hw5
  have hK5 := HK4.out.trans (hk5.mono fun _ _ h => h.elim)
  clear e0 e1 e2 e3 e4 e5 hw5 hk5 Hs HDE Hc4 HM4 HK4
  unfold cmdV
  go_wp2_with (with_reducible refine wpList_stop (.store 24 (.tmp 19) (.tmp 59)) rfl ?_)
  refine .inr ?_
  refine wpList_store_row rfl 24 (.tmp 19) (.tmp 59) rfl w5.heap.size #[.int .i64 x0, .int .i64 x1, .int .i64 x2, .int .i64 x3, .int .i64 B.u, .int .i64 B.v] rfl rfl 24 #[.int .i64 0, .int .i64 0, .int .i64 0, .int .i64 0, .int .i64 0, .int .i64 0] ?hg8 (by kernel_rfl) rfl (by simp [Value.oneCell']) ?_
  case hg8 => exact Blk.new _ _ _
  have hrow8 : Blk ((w5.alloc (.cells #[.int .i64 0, .int .i64 0, .int .i64 0, .int .i64 0, .int .i64 0, .int .i64 0] 24)).setRow w5.heap.size #[.int .i64 x0, .int .i64 x1, .int .i64 x2, .int .i64 x3, .int .i64 B.u, .int .i64 B.v]) w5.heap.size #[.int .i64 x0, .int .i64 x1, .int .i64 x2, .int .i64 x3, .int .i64 B.u, .int .i64 B.v] 24 := setRow_heap _ w5.heap.size #[.int .i64 0, .int .i64 0, .int .i64 0, .int .i64 0, .int .i64 0, .int .i64 0] #[.int .i64 x0, .int .i64 x1, .int .i64 x2, .int .i64 x3, .int .i64 B.u, .int .i64 B.v] 24 (0, 0) (Blk.new _ _ _)
  have hkeep : Keep (fun _ => False) w5 ((w5.alloc (.cells #[.int .i64 0, .int .i64 0, .int .i64 0, .int .i64 0, .int .i64 0, .int .i64 0] 24)).setRow w5.heap.size #[.int .i64 x0, .int .i64 x1, .int .i64 x2, .int .i64 x3, .int .i64 B.u, .int .i64 B.v]) := ((Keep.refl _ w5).alloc _).setRow (.inr (Nat.le_refl _)) _
  have hc6 := hkeep.blk hc5 (fun h => h)
  have hK6 := hK5.trans (hkeep.mono fun _ _ h => h.elim)
  have hm6 := hm5.below (hkeep.below w5.heap.size (Nat.le_refl _) (fun k h => h.elim))
  clear hkeep hc5 hm5 hK5
  generalize (w5.alloc (.cells #[.int .i64 0, .int .i64 0, .int .i64 0, .int .i64 0, .int .i64 0, .int .i64 0] 24)).setRow w5.heap.size #[.int .i64 x0, .int .i64 x1, .int .i64 x2, .int .i64 x3, .int .i64 B.u, .int .i64 B.v] = w6 at hrow8 hc6 hm6 hK6 ⊢
  have q0 := hc6.cell 0
  have q1' := hc6.cell 1
  have q2' := hc6.cell 2
  have q3' := hc6.cell 3
  have q4' := hc6.cell 4
  have q5 := hc6.cell 5
  have r0 := hrow8.cell 0
  have r1 := hrow8.cell 1
  have r2 := hrow8.cell 2
  have r3 := hrow8.cell 3
  have r4 := hrow8.cell 4
  have r5 := hrow8.cell 5
  simp only [List.getElem?_toArray, List.getElem?_cons_zero, List.getElem?_cons_succ] at q0 q1' q2' q3' q4' q5 r0 r1 r2 r3 r4 r5
  have HA := Lib.hid (walk_any (w.heap.size + 1) w.heap.size B.bs B.u B.v long w6 hm6 hub.1 hub.2 hvb.1 hvb.2 (by omega) (by omega))
  rw [HWk.out] at HA
  have HK6 := Lib.hid hK6
  clear hrow8 hc6 hm6 hK6
  go_wp2_with fail
  refine HA.out.mono ?_
  clear q0 q1' q2' q3' q4' q5 r0 r1 r2 r3 r4 r5
  rintro e w7 ⟨hbel7, _, hok⟩
  obtain ⟨v, rfl, ho⟩ := hok rfl
  obtain ⟨hl1, hl2, hsok, hsum, _⟩ := walkRes_ok _ _ _ _ _ HWk.out
  have hsl : segs.length = ps.length := by rw [← HS.out]; exact builtSegs_length _ _ _
  have hln : segs.length ≤ 2048 := by have := segOk_long hsok; omega
  simp only [] at ho
  obtain ⟨g, cg, rfl, hgb⟩ := own_form ho (by omega)
  have hsr := segRd_own ho rfl
  have HSR := Lib.hid hsr
  have HSok := Lib.hid hsok
  have HK7 := Lib.hid (HK6.out.trans (Keep.ofBelow (S := fun k => k = w.heap.size ∨ k = cb) hbel7 (fun k h1 h2 => absurd h1 (by omega))))
  have hs7 := HK7.out.size
  have hg7 := (ho.lt g rfl).2
  have d0 : ((segs.length : Int) != (ps.length : Int)) = false := by simp; omega
  have HSl := Lib.hid hsl
  clear hsr hsok hsum hbel7 ho hok HA hsl HK6
  obtain ⟨pb, poff, rfl, hpn, hpl, hpc⟩ := Hp.out.resolve_left (by omega)
  have HPc : Hid (∀ i, i < ps.length → w7.cell? ⟨pb, poff + i, none⟩ = some (.int .i64 (ps.getD i 0))) := fun i hi => (HK7.out.cell (p := ⟨pb, poff + i, none⟩) hpl (by rintro (h | h) <;> simp at h <;> omega)).trans (hpc i hi)
  clear Hp hpc HK7
  go_wp2_with fail
  clear d0
  go_loopw [21] (fun i wr => ∃ j : Nat, j ≤ segs.length ∧ i = .int .i64 j ∧ wr = w7) (fun i _ => segs.length - (intOf i).toNat)
  case atStart => exact ⟨0, Nat.zero_le _, rfl, rfl⟩
  case round =>
    obtain ⟨j, hj, rfl, rfl⟩ := hrel
    by_cases hlt : j < segs.length
    · have hjp : j < ps.length := by have := HSl.out; omega
      obtain ⟨sb, soff, e1, hsb, hcell⟩ := HSR.out.resolve_left (by omega)
      cases e1
      have hc1 := (hcell j hlt).1
      rw [Nat.zero_add] at hc1
      have hfst : (segs.getD j (0, 0)).1 = ps.getD j 0 + if j = 0 then offset else 0 := by
        have := builtSegs_at ps offset long j hjp
        rw [HS.out] at this; exact this
      have hpc := HPc.out j hjp
      have hpbj := Pb.out (ps.getD j 0) (by simp [List.getD, hjp])
      have i1 : (j : Int) < (ps.length : Int) := by omega
      have i2 : (j : Int) < (segs.length : Int) := by omega
      have hpg : ps.getD j 0 + (if j = 0 then offset else 0) ≤ 140000000000000 := by
        have h1 := (memFits_iff _ _ _).1 (HSok.out (segs.getD j (0, 0)) (by simp [List.getD, hlt])).1
        have h2 := HBl.out
        rw [List.length_replicate] at h2
        omega
      clear hcell
      generalize (segs.getD j (0, 0)).1 = x at *
      generalize ps.getD j 0 = y at *
      by_cases h0 : j = 0
      · rw [if_pos h0] at hfst
        have dj0 : ((j : Int) == 0) = true := by simp; omega
        subst hfst
        rw [if_pos h0] at hpg
        have hwr : IntKind.i64.wrap (y + offset) = y + offset := IntWalk.i64_in _ (by unfold I64 at hpbj; omega)
        have dj : ((y + offset) != (y + offset)) = false := by simp
        clear h0
        go_wp2_with fail
        go_roundw
        case rel => exact ⟨j + 1, by omega, by go_num, trivial⟩
        case measure => simp [intOf]; omega
      · rw [if_neg h0] at hfst
        have dj0 : ((j : Int) == 0) = false := by simp; omega
        have dj : (y != y) = false := by simp
        rw [Int.add_zero] at hfst
        subst hfst
        go_wp2_with fail
        go_roundw
        case rel => exact ⟨j + 1, by omega, by go_num, trivial⟩
        case measure => simp [intOf]; omega
    · obtain rfl : j = segs.length := by omega
      go_wp2_with fail
end Go.Proofs.YtdkpbobglogmoaaGreat
namespace Go.Proofs.YtdkpbobglogmoaaGreat
open Go Go.RowKit
namespace Pool
theorem rest3_is : c3bb = rest3 := rfl
theorem top_arr {nn at_ offset long x0 x1 x2 x3 x4 x5 : Int} {a' : Option Addr} {ps : List Int} {cap' cb : Nat} {T : Array Value} (sT : T.size = 109) (t0 : T.getD 0 undef = .int .i64 nn) (t1 : T.getD 1 undef = .int .i64 at_) (t2 : T.getD 2 undef = .slice a' ps.length cap') (t3 : T.getD 3 undef = .int .i64 offset) (t4 : T.getD 4 undef = .int .i64 long) (t5 : T.getD 5 undef = .agg #[.int .i64 x0, .int .i64 x1, .int .i64 x2, .int .i64 x3, .int .i64 x4, .int .i64 x5])
    (t11 : T.getD 11 undef = .pointer (some ⟨cb, 0, none⟩)) (t12 : T.getD 12 undef = .bool false) (t13 : T.getD 13 undef = .bool true) (t23 : T.getD 23 undef = .bool true) (tr : ∀ i, late3 i = true → T.getD i undef = undef) : T = topT nn at_ offset long x0 x1 x2 x3 x4 x5 a' ps cap' cb := by
  apply Array.ext_getElem?
  intro i
  by_cases hi : i < 109
  · have key : ∀ (j : Nat) (v : Value), T.getD j undef = v → j < 109 → T[j]? = some v := fun j v h hj => by
      rw [Array.getElem?_eq_getElem (by omega)]
      rw [Array.getD_eq_getD_getElem?, Array.getElem?_eq_getElem (by omega)] at h
      simpa using h
    match i, hi with
    | 0, _ => exact key 0 _ t0 (by decide)
    | 1, _ => exact key 1 _ t1 (by decide)
    | 2, _ => exact key 2 _ t2 (by decide)
    | 3, _ => exact key 3 _ t3 (by decide)
    | 4, _ => exact key 4 _ t4 (by decide)
    | 5, _ => exact key 5 _ t5 (by decide)
    | 6, _ => exact key 6 _ (tr 6 (by decide)) (by decide)
    | 7, _ => exact key 7 _ (tr 7 (by decide)) (by decide)
    | 8, _ => exact key 8 _ (tr 8 (by decide)) (by decide)
    | 9, _ => exact key 9 _ (tr 9 (by decide)) (by decide)
    | 10, _ => exact key 10 _ (tr 10 (by decide)) (by decide)
    | 11, _ => exact key 11 _ t11 (by decide)
    | 12, _ => exact key 12 _ t12 (by decide)
    | 13, _ => exact key 13 _ t13 (by decide)
    | 14, _ => exact key 14 _ (tr 14 (by decide)) (by decide)
    | 15, _ => exact key 15 _ (tr 15 (by decide)) (by decide)
    | 16, _ => exact key 16 _ (tr 16 (by decide)) (by decide)
    | 17, _ => exact key 17 _ (tr 17 (by decide)) (by decide)
    | 18, _ => exact key 18 _ (tr 18 (by decide)) (by decide)
    | 19, _ => exact key 19 _ (tr 19 (by decide)) (by decide)
    | 20, _ => exact key 20 _ (tr 20 (by decide)) (by decide)
    | 21, _ => exact key 21 _ (tr 21 (by decide)) (by decide)
    | 22, _ => exact key 22 _ (tr 22 (by decide)) (by decide)
    | 23, _ => exact key 23 _ t23 (by decide)
    | 24, _ => exact key 24 _ (tr 24 (by decide)) (by decide)
    | 25, _ => exact key 25 _ (tr 25 (by decide)) (by decide)
    | 26, _ => exact key 26 _ (tr 26 (by decide)) (by decide)
    | 27, _ => exact key 27 _ (tr 27 (by decide)) (by decide)
    | 28, _ => exact key 28 _ (tr 28 (by decide)) (by decide)
    | 29, _ => exact key 29 _ (tr 29 (by decide)) (by decide)
    | 30, _ => exact key 30 _ (tr 30 (by decide)) (by decide)
    | 31, _ => exact key 31 _ (tr 31 (by decide)) (by decide)
    | 32, _ => exact key 32 _ (tr 32 (by decide)) (by decide)
    | 33, _ => exact key 33 _ (tr 33 (by decide)) (by decide)
    | 34, _ => exact key 34 _ (tr 34 (by decide)) (by decide)
    | 35, _ => exact key 35 _ (tr 35 (by decide)) (by decide)
    | 36, _ => exact key 36 _ (tr 36 (by decide)) (by decide)
    | 37, _ => exact key 37 _ (tr 37 (by decide)) (by decide)
    | 38, _ => exact key 38 _ (tr 38 (by decide)) (by decide)
    | 39, _ => exact key 39 _ (tr 39 (by decide)) (by decide)
    | 40, _ => exact key 40 _ (tr 40 (by decide)) (by decide)
    | 41, _ => exact key 41 _ (tr 41 (by decide)) (by decide)
    | 42, _ => exact key 42 _ (tr 42 (by decide)) (by decide)
    | 43, _ => exact key 43 _ (tr 43 (by decide)) (by decide)
    | 44, _ => exact key 44 _ (tr 44 (by decide)) (by decide)
    | 45, _ => exact key 45 _ (tr 45 (by decide)) (by decide)
    | 46, _ => exact key 46 _ (tr 46 (by decide)) (by decide)
    | 47, _ => exact key 47 _ (tr 47 (by decide)) (by decide)
    | 48, _ => exact key 48 _ (tr 48 (by decide)) (by decide)
    | 49, _ => exact key 49 _ (tr 49 (by decide)) (by decide)
    | 50, _ => exact key 50 _ (tr 50 (by decide)) (by decide)
    | 51, _ => exact key 51 _ (tr 51 (by decide)) (by decide)
    | 52, _ => exact key 52 _ (tr 52 (by decide)) (by decide)
    | 53, _ => exact key 53 _ (tr 53 (by decide)) (by decide)
    | 54, _ => exact key 54 _ (tr 54 (by decide)) (by decide)
    | 55, _ => exact key 55 _ (tr 55 (by decide)) (by decide)
    | 56, _ => exact key 56 _ (tr 56 (by decide)) (by decide)
    | 57, _ => exact key 57 _ (tr 57 (by decide)) (by decide)
    | 58, _ => exact key 58 _ (tr 58 (by decide)) (by decide)
    | 59, _ => exact key 59 _ (tr 59 (by decide)) (by decide)
    | 60, _ => exact key 60 _ (tr 60 (by decide)) (by decide)
    | 61, _ => exact key 61 _ (tr 61 (by decide)) (by decide)
    | 62, _ => exact key 62 _ (tr 62 (by decide)) (by decide)
    | 63, _ => exact key 63 _ (tr 63 (by decide)) (by decide)
    | 64, _ => exact key 64 _ (tr 64 (by decide)) (by decide)
    | 65, _ => exact key 65 _ (tr 65 (by decide)) (by decide)
    | 66, _ => exact key 66 _ (tr 66 (by decide)) (by decide)
    | 67, _ => exact key 67 _ (tr 67 (by decide)) (by decide)
    | 68, _ => exact key 68 _ (tr 68 (by decide)) (by decide)
    | 69, _ => exact key 69 _ (tr 69 (by decide)) (by decide)
    | 70, _ => exact key 70 _ (tr 70 (by decide)) (by decide)
    | 71, _ => exact key 71 _ (tr 71 (by decide)) (by decide)
    | 72, _ => exact key 72 _ (tr 72 (by decide)) (by decide)
    | 73, _ => exact key 73 _ (tr 73 (by decide)) (by decide)
    | 74, _ => exact key 74 _ (tr 74 (by decide)) (by decide)
    | 75, _ => exact key 75 _ (tr 75 (by decide)) (by decide)
    | 76, _ => exact key 76 _ (tr 76 (by decide)) (by decide)
    | 77, _ => exact key 77 _ (tr 77 (by decide)) (by decide)
    | 78, _ => exact key 78 _ (tr 78 (by decide)) (by decide)
    | 79, _ => exact key 79 _ (tr 79 (by decide)) (by decide)
    | 80, _ => exact key 80 _ (tr 80 (by decide)) (by decide)
    | 81, _ => exact key 81 _ (tr 81 (by decide)) (by decide)
    | 82, _ => exact key 82 _ (tr 82 (by decide)) (by decide)
    | 83, _ => exact key 83 _ (tr 83 (by decide)) (by decide)
    | 84, _ => exact key 84 _ (tr 84 (by decide)) (by decide)
    | 85, _ => exact key 85 _ (tr 85 (by decide)) (by decide)
    | 86, _ => exact key 86 _ (tr 86 (by decide)) (by decide)
    | 87, _ => exact key 87 _ (tr 87 (by decide)) (by decide)
    | 88, _ => exact key 88 _ (tr 88 (by decide)) (by decide)
    | 89, _ => exact key 89 _ (tr 89 (by decide)) (by decide)
    | 90, _ => exact key 90 _ (tr 90 (by decide)) (by decide)
    | 91, _ => exact key 91 _ (tr 91 (by decide)) (by decide)
    | 92, _ => exact key 92 _ (tr 92 (by decide)) (by decide)
    | 93, _ => exact key 93 _ (tr 93 (by decide)) (by decide)
    | 94, _ => exact key 94 _ (tr 94 (by decide)) (by decide)
    | 95, _ => exact key 95 _ (tr 95 (by decide)) (by decide)
    | 96, _ => exact key 96 _ (tr 96 (by decide)) (by decide)
    | 97, _ => exact key 97 _ (tr 97 (by decide)) (by decide)
    | 98, _ => exact key 98 _ (tr 98 (by decide)) (by decide)
    | 99, _ => exact key 99 _ (tr 99 (by decide)) (by decide)
    | 100, _ => exact key 100 _ (tr 100 (by decide)) (by decide)
    | 101, _ => exact key 101 _ (tr 101 (by decide)) (by decide)
    | 102, _ => exact key 102 _ (tr 102 (by decide)) (by decide)
    | 103, _ => exact key 103 _ (tr 103 (by decide)) (by decide)
    | 104, _ => exact key 104 _ (tr 104 (by decide)) (by decide)
    | 105, _ => exact key 105 _ (tr 105 (by decide)) (by decide)
    | 106, _ => exact key 106 _ (tr 106 (by decide)) (by decide)
    | 107, _ => exact key 107 _ (tr 107 (by decide)) (by decide)
    | 108, _ => exact key 108 _ (tr 108 (by decide)) (by decide)
    | j + 109, hi => exact absurd hi (by omega)
  · rw [Array.getElem?_eq_none (by omega), Array.getElem?_eq_none (by simp [topT]; omega)]
end Pool
end Go.Proofs.YtdkpbobglogmoaaGreat
namespace Go.Proofs.YtdkpbobglogmoaaGreat
open Go.RowKit
def on1 (x : Int) : Int := IntKind.u64.wrap (bits .and .u64 (x / 2) 6148914691236517205 + bits .and .u64 x 6148914691236517205)
def on2 (x : Int) : Int := IntKind.u64.wrap (bits .and .u64 (x / 4) 3689348814741910323 + bits .and .u64 x 3689348814741910323)
def on3 (x : Int) : Int := bits .and .u64 (IntKind.u64.wrap (x / 16 + x)) 1085102592571150095
def on4 (x : Int) : Int := IntKind.u64.wrap (x + x / 256)
def on5 (x : Int) : Int := IntKind.u64.wrap (x + x / 65536)
def on6 (x : Int) : Int := IntKind.u64.wrap (x + x / 4294967296)
def ones (x : Int) : Int := bits .and .i64 (wrap64 (on6 (on5 (on4 (on3 (on2 (on1 x))))))) 127
theorem no_two : ((List.range 256).all fun x => decide (x < 2) || !(ones (x : Int) == 1 && ones ((x : Int) + 1) == 1)) = true := by decide +kernel
theorem ones64 (x : Int) (w : World) :
    Calls Tryz.prog 49 #[.int .u64 x] w fun e w' => e = .returned (.int .i64 (ones x)) ∧ w = w' := by
  go_enter Tryz.func49, Tryz.ntmps49
  go_wp2
  go_ret
  exact ⟨rfl, rfl⟩
theorem onesU (x : Int) (w : World) (h0 : 0 ≤ x) (h1 : x ≤ 18446744073709551615) :
    Calls Tryz.prog 48 #[.int .u64 x] w fun e w' => e = .returned (.int .i64 (ones x)) ∧ w = w' := by
  go_enter Tryz.func48, Tryz.ntmps48
  go_wp2_with fail
  refine (ones64 x _).mono ?_
  rintro e w' ⟨rfl, rfl⟩
  go_wp2
  go_ret
  exact ⟨rfl, rfl⟩
theorem ones8 (x : Int) (w : World) (h0 : 0 ≤ x) (h1 : x ≤ 255) :
    Calls Tryz.prog 50 #[.int .u8 x] w fun e w' => (∃ n, e = .returned (.int .i64 n)) ∧ w = w' := by
  go_enter Tryz.func50, Tryz.ntmps50
  go_wp2
  go_ret
  exact ⟨⟨_, rfl⟩, rfl⟩
theorem code_fits (a : Option Addr) (c : Nat) (w : World) :
    Calls Tryz.prog 29 #[.slice a 24 c] w fun e w' => e = .returned .nilIface ∧ w = w' := by
  go_enter Tryz.func29, Tryz.ntmps29
  go_wp2
  go_ret
  exact ⟨rfl, rfl⟩
theorem code_word (bb off c : Nat) (ys : List Int) (w : World) (hc : ∀ i, i < 8 → w.cell? ⟨bb, off + i, none⟩ = some (.int .u8 (ys.getD i 0))) (n : Nat) (hn : 8 ≤ n) (hn2 : n ≤ 140737488351232) :
    Calls Tryz.prog 32 #[.slice (some ⟨bb, off, none⟩) n c] w fun e w' => (∃ x, e = .returned (.int .u64 x)) ∧ w = w' := by
  have Hc := Lib.hid hc
  clear hc
  go_enter Tryz.func32, Tryz.ntmps32
  go_wp2
  go_loop [2, 4] (fun x i => ∃ k : Nat, k ≤ 8 ∧ i = .int .i64 k ∧ ∃ X, x = .int .u64 X) (fun _ i => 8 - (intOf i).toNat)
  case atStart => exact ⟨0, by omega, rfl, _, rfl⟩
  case round =>
    obtain ⟨k, hk, rfl, X, rfl⟩ := hrel
    by_cases hlt : k < 8
    · have hck := Hc.out k hlt
      obtain ⟨y, hy⟩ : ∃ y, y = ys.getD k 0 := ⟨_, rfl⟩
      rw [← hy] at hck
      clear hy
      go_wp2
      go_round
      case rel => exact ⟨k + 1, by omega, by go_num, _, rfl⟩
      case measure => simp [intOf]; omega
    · obtain rfl : k = 8 := by omega
      go_wp2
      go_ret
      exact ⟨⟨_, rfl⟩, rfl⟩
theorem no_two_at {x : Nat} (h2 : 2 ≤ x) (hx : x < 256) (h : ones (x : Int) = 1) : ones ((x : Int) + 1) ≠ 1 := by
  have := List.all_eq_true.1 no_two x (List.mem_range.2 hx)
  intro h1
  simp [h, h1] at this
  omega
theorem u8_wrapped (n : Int) : 0 ≤ IntKind.u8.wrap n ∧ IntKind.u8.wrap n ≤ 255 := by
  have : IntKind.u8.wrap n = n % 256 := IntKind.wrap_u8 n
  omega
theorem index7_0 (m0 m1 m2 m3 m4 m5 m6 : Int) (w : World) : (Instr.index 92 (.agg #[.int .u64 m0, .int .u64 m1, .int .u64 m2, .int .u64 m3, .int .u64 m4, .int .u64 m5, .int .u64 m6]) (.int .i64 0)).run Tryz.prog w = .ok (.int .u64 m0) w := by
  simp [Instr.index, asIntOf, run_underlying Tryz.underlying92, part]
theorem index7_1 (m0 m1 m2 m3 m4 m5 m6 : Int) (w : World) : (Instr.index 92 (.agg #[.int .u64 m0, .int .u64 m1, .int .u64 m2, .int .u64 m3, .int .u64 m4, .int .u64 m5, .int .u64 m6]) (.int .i64 1)).run Tryz.prog w = .ok (.int .u64 m1) w := by
  simp [Instr.index, asIntOf, run_underlying Tryz.underlying92, part]
theorem index7_2 (m0 m1 m2 m3 m4 m5 m6 : Int) (w : World) : (Instr.index 92 (.agg #[.int .u64 m0, .int .u64 m1, .int .u64 m2, .int .u64 m3, .int .u64 m4, .int .u64 m5, .int .u64 m6]) (.int .i64 2)).run Tryz.prog w = .ok (.int .u64 m2) w := by
  simp [Instr.index, asIntOf, run_underlying Tryz.underlying92, part]
theorem index7_3 (m0 m1 m2 m3 m4 m5 m6 : Int) (w : World) : (Instr.index 92 (.agg #[.int .u64 m0, .int .u64 m1, .int .u64 m2, .int .u64 m3, .int .u64 m4, .int .u64 m5, .int .u64 m6]) (.int .i64 3)).run Tryz.prog w = .ok (.int .u64 m3) w := by
  simp [Instr.index, asIntOf, run_underlying Tryz.underlying92, part]
theorem index7_4 (m0 m1 m2 m3 m4 m5 m6 : Int) (w : World) : (Instr.index 92 (.agg #[.int .u64 m0, .int .u64 m1, .int .u64 m2, .int .u64 m3, .int .u64 m4, .int .u64 m5, .int .u64 m6]) (.int .i64 4)).run Tryz.prog w = .ok (.int .u64 m4) w := by
  simp [Instr.index, asIntOf, run_underlying Tryz.underlying92, part]
theorem index7_5 (m0 m1 m2 m3 m4 m5 m6 : Int) (w : World) : (Instr.index 92 (.agg #[.int .u64 m0, .int .u64 m1, .int .u64 m2, .int .u64 m3, .int .u64 m4, .int .u64 m5, .int .u64 m6]) (.int .i64 5)).run Tryz.prog w = .ok (.int .u64 m5) w := by
  simp [Instr.index, asIntOf, run_underlying Tryz.underlying92, part]
theorem index7_6 (m0 m1 m2 m3 m4 m5 m6 : Int) (w : World) : (Instr.index 92 (.agg #[.int .u64 m0, .int .u64 m1, .int .u64 m2, .int .u64 m3, .int .u64 m4, .int .u64 m5, .int .u64 m6]) (.int .i64 6)).run Tryz.prog w = .ok (.int .u64 m6) w := by
  simp [Instr.index, asIntOf, run_underlying Tryz.underlying92, part]
def maskV (ms : List Int) : Value := .agg (ms.map (Value.int .u64)).toArray
theorem code_check (x : Int) (ms : List Int) (hm : ms.length = 7) (w : World) :
    Calls Tryz.prog 31 #[.int .u64 x, maskV ms] w fun e w' => (∃ c, 0 ≤ c ∧ c ≤ 255 ∧ e = .returned (.int .u8 c)) ∧ Below w.heap.size w w' := by
  match ms, hm with
  | [m0, m1, m2, m3, m4, m5, m6], _ =>
  simp only [maskV, List.map_cons, List.map_nil]
  go_enter Tryz.func31, Tryz.ntmps31
  go_wp2
  go_loop [5, 9] (fun x i => ∃ k : Nat, k ≤ 7 ∧ i = .int .i64 k ∧ ∃ X, 0 ≤ X ∧ X ≤ 255 ∧ x = .int .u8 X) (fun _ i => 7 - (intOf i).toNat)
  case atStart => exact ⟨0, by omega, rfl, _, by omega, by omega, rfl⟩
  case round =>
    obtain ⟨k, hk, rfl, X, hX0, hX1, rfl⟩ := hrel
    by_cases hlt : k < 7
    · have h7 : k = 0 ∨ k = 1 ∨ k = 2 ∨ k = 3 ∨ k = 4 ∨ k = 5 ∨ k = 6 := by omega
      clear hk hlt
      rcases h7 with rfl | rfl | rfl | rfl | rfl | rfl | rfl
      all_goals
        have i0 := index7_0 m0 m1 m2 m3 m4 m5 m6
        have i1 := index7_1 m0 m1 m2 m3 m4 m5 m6
        have i2 := index7_2 m0 m1 m2 m3 m4 m5 m6
        have i3 := index7_3 m0 m1 m2 m3 m4 m5 m6
        have i4 := index7_4 m0 m1 m2 m3 m4 m5 m6
        have i5 := index7_5 m0 m1 m2 m3 m4 m5 m6
        have i6 := index7_6 m0 m1 m2 m3 m4 m5 m6
        go_wp2_with fail
        refine (ones64 _ _).mono ?_
        rintro e w' ⟨rfl, rfl⟩
        go_wp2
        go_round
        case rel => exact ⟨_, by decide, rfl, _, (u8_wrapped _).1, (u8_wrapped _).2, rfl⟩
        case measure => simp [intOf]
    · obtain rfl : k = 7 := by omega
      clear hk hlt
      go_wp2_with fail
      refine (ones64 _ _).mono ?_
      rintro e w' ⟨rfl, rfl⟩
      go_wp2_with fail
      refine (ones8 _ _ hX0 hX1).mono ?_
      rintro e w' ⟨⟨q, rfl⟩, rfl⟩
      go_wp2
      go_ret
      exact ⟨⟨_, (u8_wrapped _).1, (u8_wrapped _).2, rfl⟩, (Below.refl _ _).alloc (Nat.le_refl _) _⟩
end Go.Proofs.YtdkpbobglogmoaaGreat
namespace Go.Proofs.YtdkpbobglogmoaaGreat
open Go.RowKit
theorem code_places (w : World) :
    Calls Tryz.prog 30 #[] w fun e w' => (∃ ms : List Int, ms.length = 7 ∧ e = .returned (maskV ms)) ∧ Below w.heap.size w w' := by
  go_enter Tryz.func30, Tryz.ntmps30
  go_wp2_with fail
  go_loopw [1, 4] (fun p i wr => ∃ (k v : Nat) (ms : List Int), k ≤ 64 ∧ 3 ≤ v ∧ v ≤ 3 + 2 * k ∧ p = .int .u64 v ∧ i = .int .i64 k ∧ ms.length = 7 ∧ Blk wr w.heap.size (ms.map (Value.int .u64)).toArray 92 ∧ Below w.heap.size w wr) (fun _ i _ => 64 - (intOf i).toNat)
  case atStart => exact ⟨0, 3, [0, 0, 0, 0, 0, 0, 0], by omega, by omega, by omega, rfl, rfl, rfl, Blk.new w _ _, (Below.refl _ _).alloc (Nat.le_refl _) _⟩
  case round =>
    obtain ⟨k, v, ms, hk, hv0, hv1, rfl, rfl, hms, hB, hbe⟩ := hrel
    have HB := Lib.hid hB
    have Hbe := Lib.hid hbe
    have Hms := Lib.hid hms
    clear hB hbe hms
    by_cases hlt : k < 64
    · have hd : decide ((k : Int) < 64) = true := by simp; omega
      go_wp2_with fail
      clear hd
      go_loopw [1] (fun p w2 => ∃ u : Nat, w2 = wr ∧ p = .int .u64 u ∧ (u = v ∨ u = v + 1 ∧ ones (v : Int) = 1)) (fun p _ => v + 1 - (intOf p).toNat)
      case atStart => exact ⟨v, rfl, rfl, .inl rfl⟩
      case round =>
        obtain ⟨u, rfl, rfl, hu⟩ := hrel
        have HU := Lib.hid hu
        have hu0 : 3 ≤ u := by omega
        have hu1 : u ≤ 200 := by omega
        clear hu
        obtain ⟨q, hq⟩ : ∃ q, q = ones (u : Int) := ⟨_, rfl⟩
        have HQ := Lib.hid hq
        go_wp2_with fail
        refine (onesU u _ (by omega) (by omega)).mono ?_
        rintro e w' ⟨rfl, rfl⟩
        rw [← hq]
        clear hq
        by_cases hq1 : q = 1
        · subst hq1
          have huv : u = v := by
            rcases HU.out with h | ⟨h, h1⟩
            · exact h
            · exfalso
              have := no_two_at (x := v) (by omega) (by omega) h1
              rw [h] at HQ
              exact this (by simpa using HQ.out.symm)
          subst huv
          go_wp2_with fail
          go_roundw
          case rel => exact ⟨u + 1, by trivial, by go_num, .inr ⟨rfl, HQ.out.symm⟩⟩
          case measure => simp [intOf]
        · have hqd : (q == 1) = false := by simp [hq1]
          clear HQ
          go_wp2_with fail
          clear hqd hq1
          go_loopw [12] (fun j w3 => ∃ (t : Nat) (ns : List Int), t ≤ 7 ∧ j = .int .i64 t ∧ ns.length = 7 ∧ Blk w3 w.heap.size (ns.map (Value.int .u64)).toArray 92 ∧ Below w.heap.size w w3) (fun j _ => 7 - (intOf j).toNat)
          case atStart => exact ⟨0, ms, by omega, rfl, Hms.out, HB.out, Hbe.out⟩
          case round =>
            obtain ⟨t, ns, ht, rfl, hns, hB3, hbe3⟩ := hrel
            rename World => w1
            have Hns := Lib.hid hns
            have HB3 := Lib.hid hB3
            have Hbe3 := Lib.hid hbe3
            clear hns hB3 hbe3
            by_cases h7 : t < 7
            · have hd : decide ((t : Int) < 7) = true := by simp; omega
              obtain ⟨m, hm⟩ : ∃ m, ns[t]? = some m := ⟨_, List.getElem?_eq_getElem (by rw [Hns.out]; exact h7)⟩
              have c0 := HB3.out.cell t
              have f0 := HB3.out.free t
              simp only [List.getElem?_toArray, List.getElem?_map, hm, Option.map_some] at c0
              have Hm := Lib.hid hm
              clear hm
              go_wp2_with fail
              go_region
              obtain ⟨x, hx⟩ : ∃ x, x = bits BinOp.or IntKind.u64 m (IntKind.u64.wrap (bits BinOp.and IntKind.u64 ((u : Int) / 2 ^ t) 1 * 2 ^ k)) := ⟨_, rfl⟩
              rw [← hx]
              clear hx
              have hB4 : Blk (w1.setCell ⟨w.heap.size, t, none⟩ (.int .u64 x)).drew w.heap.size ((ns.set t x).map (Value.int .u64)).toArray 92 := ((HB3.out.set t (.int .u64 x)).of (by simp [List.map_set])).drew
              have hbe4 : Below w.heap.size w (w1.setCell ⟨w.heap.size, t, none⟩ (.int .u64 x)).drew := (Hbe3.out.setCell (p := ⟨w.heap.size, t, none⟩) (Nat.le_refl _) _).drew
              clear c0 f0 HB3 Hbe3
              generalize (w1.setCell _ _).drew = w4 at hB4 hbe4 ⊢
              have HB4 := Lib.hid hB4
              have Hbe4 := Lib.hid hbe4
              have Hl4 := Lib.hid (show (ns.set t x).length = 7 by rw [List.length_set]; exact Hns.out)
              clear hB4 hbe4
              rename_i K hKK
              refine hKK _ _ ?_
              clear hKK
              go_wp2_with fail
              go_roundw
              case rel => exact ⟨t + 1, _, by omega, by go_num, Hl4.out, HB4.out, Hbe4.out⟩
              case measure => simp [intOf]; omega
            · have hd : decide ((t : Int) < 7) = false := by simp; omega
              obtain rfl : t = 7 := by omega
              go_wp2_with fail
              refine ⟨⟨k + 1, u + 1, ns, by omega, by omega, ?_, by go_num, by go_num, Hns.out, HB3.out, Hbe3.out⟩, by simp [intOf]; omega⟩
              rcases HU.out with h | ⟨h, _⟩ <;> omega
    · obtain rfl : k = 64 := by omega
      match ms, Hms.out, HB with
      | [m0, m1, m2, m3, m4, m5, m6], _, HB =>
      simp only [List.map_cons, List.map_nil] at HB
      have c0 := HB.out.cell 0
      have c1 := HB.out.cell 1
      have c2 := HB.out.cell 2
      have c3 := HB.out.cell 3
      have c4 := HB.out.cell 4
      have c5 := HB.out.cell 5
      have c6 := HB.out.cell 6
      have f0 := HB.out.free 0
      have f1 := HB.out.free 1
      have f2 := HB.out.free 2
      have f3 := HB.out.free 3
      have f4 := HB.out.free 4
      have f5 := HB.out.free 5
      have f6 := HB.out.free 6
      simp only [List.getElem?_toArray, List.getElem?_cons_zero, List.getElem?_cons_succ] at c0 c1 c2 c3 c4 c5 c6
      go_wp2_with fail
      have hB7 := ((((((((HB.out.set 0 (.int .u64 m0)).set 1 (.int .u64 m1)).set 2 (.int .u64 m2)).set 3 (.int .u64 m3)).set 4 (.int .u64 m4)).set 5 (.int .u64 m5)).set 6 (.int .u64 m6)).of (show _ = #[Value.int .u64 m0, .int .u64 m1, .int .u64 m2, .int .u64 m3, .int .u64 m4, .int .u64 m5, .int .u64 m6] by simp))
      have hbe7 := (((((((Hbe.out.setCell (p := ⟨w.heap.size, 0, none⟩) (Nat.le_refl _) (.int .u64 m0)).setCell (p := ⟨w.heap.size, 1, none⟩) (Nat.le_refl _) (.int .u64 m1)).setCell (p := ⟨w.heap.size, 2, none⟩) (Nat.le_refl _) (.int .u64 m2)).setCell (p := ⟨w.heap.size, 3, none⟩) (Nat.le_refl _) (.int .u64 m3)).setCell (p := ⟨w.heap.size, 4, none⟩) (Nat.le_refl _) (.int .u64 m4)).setCell (p := ⟨w.heap.size, 5, none⟩) (Nat.le_refl _) (.int .u64 m5)).setCell (p := ⟨w.heap.size, 6, none⟩) (Nat.le_refl _) (.int .u64 m6))
      clear c0 c1 c2 c3 c4 c5 c6 f0 f1 f2 f3 f4 f5 f6 HB Hbe
      generalize (((((((wr.setCell _ _).setCell _ _).setCell _ _).setCell _ _).setCell _ _).setCell _ _).setCell _ _) = W7 at hB7 hbe7 ⊢
      have q0 := hB7.cell 0
      have q1 := hB7.cell 1
      have q2 := hB7.cell 2
      have q3 := hB7.cell 3
      have q4 := hB7.cell 4
      have q5 := hB7.cell 5
      have q6 := hB7.cell 6
      simp only [List.getElem?_toArray, List.getElem?_cons_zero, List.getElem?_cons_succ] at q0 q1 q2 q3 q4 q5 q6
      exact bodyPost_ret (v := maskV [m0, m1, m2, m3, m4, m5, m6]) (by simp [results, Tryz.results30, go_sem, maskV, q0, q1, q2, q3, q4, q5, q6]) rfl ⟨⟨_, rfl, rfl⟩, hbe7⟩
end Go.Proofs.YtdkpbobglogmoaaGreat
namespace Go.Proofs.YtdkpbobglogmoaaGreat
open Go.RowKit
theorem wpAny_inv {P : Program} {md : Region.Mode} {ops : Array Oper} {Q : Exit → Act → World → Prop} (I : Array Bool → Act → World → Prop)
    (hstep : ∀ L a w, I L a w → ∀ i ∈ Region.ready md ops L, ∀ K : Act → World → Prop, (∀ a' w', I (L.setIfInBounds i true) a' w' → K a' w') → wpOp P ops Q i K a w)
    (hend : ∀ L a w, I L a w → Region.ready md ops L = [] → Q .normal a w) :
    ∀ (fuel : Nat) (L : Array Bool) a w, I L a w → falses0 L ≤ fuel → wpAny P md ops Q fuel L a w := by
  intro fuel
  induction fuel with
  | zero =>
    intro L a w hI hf
    have hr : Region.ready md ops L = [] := by
      cases h : Region.ready md ops L with
      | nil => rfl
      | cons i r =>
        have hm : i ∈ Region.ready md ops L := by rw [h]; simp
        have := falses0_set L i (mem_ready.1 hm).1
        omega
    exact ⟨hr, hend L a w hI hr⟩
  | succ fuel ih =>
    intro L a w hI hf
    refine ⟨fun hr => hend L a w hI hr, fun i hi => ?_⟩
    have hs := falses0_set L i (mem_ready.1 hi).1
    exact hstep L a w hI i hi _ fun a' w' h => ih _ _ _ h (by omega)
theorem wp_region_inv {P : Program} {ops : Array Oper} {Q : Exit → Act → World → Prop} {id : Nat} {a : Act} {w : World} (hm : P.follows .mixedOrders = true)
    (I : Array Bool → Act → World → Prop) (L0 : Array Bool) (hL : L0 = Array.replicate ops.size false) (hI : I L0 a w.drew)
    (hstep : ∀ L a w, I L a w → ∀ i ∈ Region.ready .any ops L, ∀ K : Act → World → Prop, (∀ a' w', I (L.setIfInBounds i true) a' w' → K a' w') → wpOp P ops Q i K a w)
    (hend : ∀ L a w, I L a w → Region.ready .any ops L = [] → Q .normal a w) : (Code.region id ops true).wp P Q a w := by
  refine wp_region_any hm ?_
  rw [← hL]
  refine wpAny_inv I hstep hend _ L0 a _ hI ?_
  rw [hL]
  have : ∀ m, falses0 (Array.replicate m false) ≤ m := fun m => by
    unfold falses0
    exact Nat.le_trans (List.length_filter_le _ _) (by simp)
  exact this _
noncomputable def opsP9 : Array Oper := match Tryz.f12.body.getD .skip with
  | .seq _ (.seq _ (.seq _ (.seq _ (.seq (.seq _ (.block _ (.loop (.seq _ (.seq (.block _ (.region _ ops _)) _)))) ) _)))) => ops
  | _ => #[]
structure I9 (bb off c mb k : Nat) (V : Value) (ms : List Int) (W : World) (l0 l1 l2 l3 l4 l5 l6 l7 l8 l9 : Bool) (v6 v20 v21 v22 v23 v24 v25 v26 v27 v28 : Value) (w : World) : Prop where
  b1 : Below (mb + 1) W w
  b2 : l8 = false → Below W.heap.size W w
  l98 : l9 = true → l8 = true
  l80 : l8 = true → l0 = true
  l87 : l8 = true → l7 = true
  l76 : l7 = true → l6 = true
  n9 : l9 = false → v6 = V
  h9 : l9 = true → v6 = v28
  h0 : l0 = true → v20 = V
  h1 : l1 = true → v21 = .slice (some ⟨bb, off, none⟩) 24 c
  h2 : l2 = true → v22 = .int .i64 ((8 * k : Nat) : Int)
  h3 : l3 = true → v23 = .slice (some ⟨bb, off + 8 * k, none⟩) (24 - 8 * k) (c - 8 * k)
  h4 : l4 = true → ∃ x, v24 = .int .u64 x
  h5 : l5 = true → v25 = maskV ms
  h6 : l6 = true → ∃ x, v26 = .int .u8 x
  h7 : l7 = true → l8 = false → ∃ g x, v27 = .slice (some ⟨g, 0, none⟩) 1 1 ∧ w.cell? ⟨g, 0, none⟩ = some (.int .u8 x)
  h8 : l8 = true → ∃ xs, w.ownsRow (mb + 1) 5 1 v28 (k + 1) xs
theorem region9 {Q : Exit → Act → World → Prop} {s1 s2 s3 s4 s8 s9 s10 s11 s12 s13 s14 s15 s16 s17 s18 s19 s29 s6 v20' v21' v22' v23' v24' v25' v26' v27' v28' : Value} (bb off c mb k : Nat) (V : Value) (ys ms : List Int) (xs : List Value) (w : World) (hk : k < 3) (hc : 24 ≤ c) (hms : ms.length = 7) (h6 : s6 = V)
    (hbb : bb < mb + 1) (hpage : ∀ i, i < 24 → w.cell? ⟨bb, off + i, none⟩ = some (.int .u8 (ys.getD i 0))) (hmask : Blk w mb (ms.map (Value.int .u64)).toArray 92) (hown : w.ownsRow (mb + 1) 5 1 V k xs) (hbase : mb + 1 ≤ w.heap.size)
    (hend : ∀ v6 v20 v21 v22 v23 v24 v25 v26 v27 v28 w' xs', w'.ownsRow (mb + 1) 5 1 v6 (k + 1) xs' → Below (mb + 1) w w' → Q .normal ⟨#[(.slice (some ⟨bb, off, none⟩) 24 c), s1, s2, s3, s4, (.pointer (some ⟨mb, 0, none⟩)), v6, (.int .i64 ((8 * k : Nat) : Int)), s8, s9, s10, s11, s12, s13, s14, s15, s16, s17, s18, s19, v20, v21, v22, v23, v24, v25, v26, v27, v28, s29], []⟩ w') :
    (Code.region 9 opsP9 true).wp Tryz.prog Q ⟨#[(.slice (some ⟨bb, off, none⟩) 24 c), s1, s2, s3, s4, (.pointer (some ⟨mb, 0, none⟩)), s6, (.int .i64 ((8 * k : Nat) : Int)), s8, s9, s10, s11, s12, s13, s14, s15, s16, s17, s18, s19, v20', v21', v22', v23', v24', v25', v26', v27', v28', s29], []⟩ w := by
  subst h6
  match ms, hms, hmask with
  | [m0, m1, m2, m3, m4, m5, m6], hms, hmask =>
  have Hpage := Lib.hid hpage
  have Hown := Lib.hid hown
  have Hend := Lib.hid hend
  have Hmask := Lib.hid hmask
  clear hpage hown hend hmask
  refine wp_region_inv (by kernel_rfl) (fun L a w1 => ∃ l0 l1 l2 l3 l4 l5 l6 l7 l8 l9 v6 v20 v21 v22 v23 v24 v25 v26 v27 v28, L = #[l0, l1, l2, l3, l4, l5, l6, l7, l8, l9] ∧ a = ⟨#[(.slice (some ⟨bb, off, none⟩) 24 c), s1, s2, s3, s4, (.pointer (some ⟨mb, 0, none⟩)), v6, (.int .i64 ((8 * k : Nat) : Int)), s8, s9, s10, s11, s12, s13, s14, s15, s16, s17, s18, s19, v20, v21, v22, v23, v24, v25, v26, v27, v28, s29], []⟩ ∧ I9 bb off c mb k s6 [m0, m1, m2, m3, m4, m5, m6] w l0 l1 l2 l3 l4 l5 l6 l7 l8 l9 v6 v20 v21 v22 v23 v24 v25 v26 v27 v28 w1)
    #[false, false, false, false, false, false, false, false, false, false] (by kernel_rfl) ⟨_, _, _, _, _, _, _, _, _, _, _, _, _, _, _, _, _, _, _, _, rfl, rfl, ⟨(Below.refl _ w).drew, fun _ => (Below.refl _ w).drew, fun h => (by cases h), fun h => (by cases h), fun h => (by cases h), fun h => (by cases h), fun _ => rfl, fun h => (by cases h), fun h => (by cases h), fun h => (by cases h), fun h => (by cases h), fun h => (by cases h), fun h => (by cases h), fun h => (by cases h), fun h => (by cases h), fun h => (by cases h), fun h => (by cases h)⟩⟩ ?hstep ?hend
  case hend =>
    rintro L a w1 ⟨l0, l1, l2, l3, l4, l5, l6, l7, l8, l9, v6, v20, v21, v22, v23, v24, v25, v26, v27, v28, rfl, rfl, h⟩ hr
    simp only [opsP9, Tryz.f12, Option.getD_some] at hr
    have q0 := unready0 hr 0 _ rfl (by simp [Region.binds])
    simp at q0
    subst q0
    have q1 := unready0 hr 1 _ rfl (by simp [Region.binds])
    simp at q1
    subst q1
    have q2 := unready0 hr 2 _ rfl (by simp [Region.binds])
    simp at q2
    subst q2
    have q3 := unready0 hr 3 _ rfl (by simp [Region.binds])
    simp at q3
    subst q3
    have q4 := unready0 hr 4 _ rfl (by simp [Region.binds])
    simp at q4
    subst q4
    have q5 := unready0 hr 5 _ rfl (by simp [Region.binds])
    simp at q5
    subst q5
    have q6 := unready0 hr 6 _ rfl (by simp [Region.binds])
    simp at q6
    subst q6
    have q7 := unready0 hr 7 _ rfl (by simp [Region.binds])
    simp at q7
    subst q7
    have q8 := unready0 hr 8 _ rfl (by simp [Region.binds])
    simp at q8
    subst q8
    have q9 := unready0 hr 9 _ rfl (by simp [Region.binds])
    simp at q9
    subst q9
    obtain ⟨xs', hx⟩ := h.h8 rfl
    have h6 := h.h9 rfl
    subst h6
    exact Hend.out _ _ _ _ _ _ _ _ _ _ _ _ hx h.b1
  case hstep =>
    rintro L a w1 ⟨l0, l1, l2, l3, l4, l5, l6, l7, l8, l9, v6, v20, v21, v22, v23, v24, v25, v26, v27, v28, rfl, rfl, h⟩ i hi K hK
    rw [mem_ready] at hi
    obtain ⟨h0, o, ho, hd⟩ := hi
    simp only [opsP9, Tryz.f12, Option.getD_some] at ho ⊢
    have hi10 : i < 10 := (Array.getElem?_eq_some_iff.1 ho).1
    have hcases : i = 0 ∨ i = 1 ∨ i = 2 ∨ i = 3 ∨ i = 4 ∨ i = 5 ∨ i = 6 ∨ i = 7 ∨ i = 8 ∨ i = 9 := by omega
    obtain ⟨b1, b2, l98, l80, l87, l76, n9, h9, q0, q1, q2, q3, q4, q5, q6, q7, q8⟩ := h
    have Hb1 := Lib.hid b1
    have Hb2 := Lib.hid b2
    have Hl98 := Lib.hid l98
    have Hl80 := Lib.hid l80
    have Hl87 := Lib.hid l87
    have Hl76 := Lib.hid l76
    have Hn9 := Lib.hid n9
    have H9 := Lib.hid h9
    have Q0 := Lib.hid q0
    have Q1 := Lib.hid q1
    have Q2 := Lib.hid q2
    have Q3 := Lib.hid q3
    have Q4 := Lib.hid q4
    have Q5 := Lib.hid q5
    have Q6 := Lib.hid q6
    have Q7 := Lib.hid q7
    have Q8 := Lib.hid q8
    clear b1 b2 l98 l80 l87 l76 n9 h9 q0 q1 q2 q3 q4 q5 q6 q7 q8
    rcases hcases with rfl | rfl | rfl | rfl | rfl | rfl | rfl | rfl | rfl | rfl
    · obtain rfl := Option.some.inj ho
      simp [Region.binds] at h0 hd
      repeat (obtain ⟨hx1, hd⟩ := hd; try subst hx1)
      (try subst h0)
      (try subst hd)
      have e8 : l8 = false := by
        cases l8 with
        | false => rfl
        | true => exact absurd (Hl80.out rfl) (by simp)
      have e9 : l9 = false := by
        cases l9 with
        | false => rfl
        | true => exact absurd (Hl98.out rfl) (by simp [e8])
      have e6 := Hn9.out e9
      subst e6
      refine wpOp_step rfl ?_
      intro K' hK'
      rw [if_pos (by rfl)]
      go_simp
      exact hK' _ _ (hK _ _ ⟨_, _, _, _, _, _, _, _, _, _, _, _, _, _, _, _, _, _, _, _, rfl, rfl, ⟨Hb1.out, Hb2.out, Hl98.out, fun _ => rfl, Hl87.out, Hl76.out, Hn9.out, H9.out, fun _ => rfl, Q1.out, Q2.out, Q3.out, Q4.out, Q5.out, Q6.out, Q7.out, Q8.out⟩⟩)
    · obtain rfl := Option.some.inj ho
      simp [Region.binds] at h0 hd
      repeat (obtain ⟨hx1, hd⟩ := hd; try subst hx1)
      (try subst h0)
      (try subst hd)
      refine wpOp_step rfl ?_
      intro K' hK'
      rw [if_pos (by rfl)]
      go_simp
      exact hK' _ _ (hK _ _ ⟨_, _, _, _, _, _, _, _, _, _, _, _, _, _, _, _, _, _, _, _, rfl, rfl, ⟨Hb1.out, Hb2.out, Hl98.out, Hl80.out, Hl87.out, Hl76.out, Hn9.out, H9.out, Q0.out, fun _ => rfl, Q2.out, Q3.out, Q4.out, Q5.out, Q6.out, Q7.out, Q8.out⟩⟩)
    · obtain rfl := Option.some.inj ho
      simp [Region.binds] at h0 hd
      repeat (obtain ⟨hx1, hd⟩ := hd; try subst hx1)
      (try subst h0)
      (try subst hd)
      refine wpOp_step rfl ?_
      intro K' hK'
      rw [if_pos (by rfl)]
      go_simp
      exact hK' _ _ (hK _ _ ⟨_, _, _, _, _, _, _, _, _, _, _, _, _, _, _, _, _, _, _, _, rfl, rfl, ⟨Hb1.out, Hb2.out, Hl98.out, Hl80.out, Hl87.out, Hl76.out, Hn9.out, H9.out, Q0.out, Q1.out, fun _ => rfl, Q3.out, Q4.out, Q5.out, Q6.out, Q7.out, Q8.out⟩⟩)
    · obtain rfl := Option.some.inj ho
      simp [Region.binds] at h0 hd
      repeat (obtain ⟨hx1, hd⟩ := hd; try subst hx1)
      (try subst h0)
      (try subst hd)
      have e21 := Q1.out rfl
      have e22 := Q2.out rfl
      subst e21 e22
      refine wpOp_step rfl ?_
      intro K' hK'
      rw [if_pos (by rfl)]
      go_simp
      have hcs : (8 * (k : Int)) = ((8 * k : Nat) : Int) := by omega
      simp only [hcs, Int.toNat_natCast]
      rw [if_pos ⟨by omega, by omega⟩, if_neg (by omega)]
      exact hK' _ _ (hK _ _ ⟨_, _, _, _, _, _, _, _, _, _, _, _, _, _, _, _, _, _, _, _, rfl, rfl, ⟨Hb1.out, Hb2.out, Hl98.out, Hl80.out, Hl87.out, Hl76.out, Hn9.out, H9.out, Q0.out, Q1.out, Q2.out, fun _ => rfl, Q4.out, Q5.out, Q6.out, Q7.out, Q8.out⟩⟩)
    · obtain rfl := Option.some.inj ho
      simp [Region.binds] at h0 hd
      repeat (obtain ⟨hx1, hd⟩ := hd; try subst hx1)
      (try subst h0)
      (try subst hd)
      have e23 := Q3.out rfl
      subst e23
      refine wpOp_step rfl ?_
      intro K' hK'
      rw [if_pos (by rfl)]
      go_simp
      refine (code_word bb (off + 8 * k) (c - 8 * k) (ys.drop (8 * k)) _ (fun i hi => ?_) (24 - 8 * k) (by omega) (by omega)).mono ?_
      · rw [Nat.add_assoc, Hb1.out.cell (p := ⟨bb, off + (8 * k + i), none⟩) hbb, Hpage.out _ (by omega)]
        simp [List.getD]
      rintro e w' ⟨⟨x, rfl⟩, rfl⟩
      exact hK' _ _ (hK _ _ ⟨_, _, _, _, _, _, _, _, _, _, _, _, _, _, _, _, _, _, _, _, rfl, rfl, ⟨Hb1.out, Hb2.out, Hl98.out, Hl80.out, Hl87.out, Hl76.out, Hn9.out, H9.out, Q0.out, Q1.out, Q2.out, Q3.out, fun _ => ⟨x, rfl⟩, Q5.out, Q6.out, Q7.out, Q8.out⟩⟩)
    · obtain rfl := Option.some.inj ho
      simp [Region.binds] at h0 hd
      repeat (obtain ⟨hx1, hd⟩ := hd; try subst hx1)
      (try subst h0)
      (try subst hd)
      refine wpOp_step rfl ?_
      intro K' hK'
      rw [if_pos (by rfl)]
      have c0 := (Hb1.out.cell (p := ⟨mb, 0, none⟩) (Nat.lt_succ_self _)).trans (Hmask.out.cell 0)
      have c1 := (Hb1.out.cell (p := ⟨mb, 1, none⟩) (Nat.lt_succ_self _)).trans (Hmask.out.cell 1)
      have c2 := (Hb1.out.cell (p := ⟨mb, 2, none⟩) (Nat.lt_succ_self _)).trans (Hmask.out.cell 2)
      have c3 := (Hb1.out.cell (p := ⟨mb, 3, none⟩) (Nat.lt_succ_self _)).trans (Hmask.out.cell 3)
      have c4 := (Hb1.out.cell (p := ⟨mb, 4, none⟩) (Nat.lt_succ_self _)).trans (Hmask.out.cell 4)
      have c5 := (Hb1.out.cell (p := ⟨mb, 5, none⟩) (Nat.lt_succ_self _)).trans (Hmask.out.cell 5)
      have c6 := (Hb1.out.cell (p := ⟨mb, 6, none⟩) (Nat.lt_succ_self _)).trans (Hmask.out.cell 6)
      simp only [List.map_cons, List.map_nil, List.getElem?_toArray, List.getElem?_cons_zero, List.getElem?_cons_succ] at c0 c1 c2 c3 c4 c5 c6
      go_simp
      exact hK' _ _ (hK _ _ ⟨_, _, _, _, _, _, _, _, _, _, _, _, _, _, _, _, _, _, _, _, rfl, rfl, ⟨Hb1.out, Hb2.out, Hl98.out, Hl80.out, Hl87.out, Hl76.out, Hn9.out, H9.out, Q0.out, Q1.out, Q2.out, Q3.out, Q4.out, fun _ => rfl, Q6.out, Q7.out, Q8.out⟩⟩)
    · obtain rfl := Option.some.inj ho
      simp [Region.binds] at h0 hd
      repeat (obtain ⟨hx1, hd⟩ := hd; try subst hx1)
      (try subst h0)
      (try subst hd)
      obtain ⟨x, e24⟩ := Q4.out rfl
      have e25 := Q5.out rfl
      subst e24 e25
      have e7 : l7 = false := by
        cases l7 with
        | false => rfl
        | true => exact absurd (Hl76.out rfl) (by simp)
      have e8 : l8 = false := by
        cases l8 with
        | false => rfl
        | true => exact absurd (Hl87.out rfl) (by simp [e7])
      refine wpOp_step rfl ?_
      intro K' hK'
      rw [if_pos (by rfl)]
      go_simp
      refine (code_check x _ hms _).mono ?_
      rintro e w' ⟨⟨q, _, _, rfl⟩, hbe⟩
      have hsz : mb + 1 ≤ w1.heap.size := Nat.le_trans hbase Hb1.out.size
      exact hK' _ _ (hK _ _ ⟨_, _, _, _, _, _, _, _, _, _, _, _, _, _, _, _, _, _, _, _, rfl, rfl, ⟨Hb1.out.trans (hbe.mono hsz), fun h => (Hb2.out h).trans (hbe.mono (Hb2.out h).size), Hl98.out, Hl80.out, Hl87.out, fun _ => rfl, Hn9.out, H9.out, Q0.out, Q1.out, Q2.out, Q3.out, Q4.out, Q5.out, fun _ => ⟨q, rfl⟩, fun h => absurd h (by simp [e7]), fun h => absurd h (by simp [e8])⟩⟩)
    · obtain rfl := Option.some.inj ho
      simp [Region.binds] at h0 hd
      repeat (obtain ⟨hx1, hd⟩ := hd; try subst hx1)
      (try subst h0)
      (try subst hd)
      obtain ⟨x, e26⟩ := Q6.out rfl
      subst e26
      have e8 : l8 = false := by
        cases l8 with
        | false => rfl
        | true => exact absurd (Hl87.out rfl) (by simp)
      refine wpOp_step rfl ?_
      intro K' hK'
      rw [if_pos (by rfl)]
      have hsz : mb + 1 ≤ w1.heap.size := Nat.le_trans hbase Hb1.out.size
      obtain ⟨i0, hi, hz0, hz1, hz2⟩ : ∃ i0, Tryz.prog.info? 5 = some i0 ∧ i0.zero = some (.int .u8 0) ∧ i0.size = 1 ∧ i0.bytes = 1 := ⟨_, rfl, rfl, rfl, rfl⟩
      refine wp_buildSlice 33 5 1 #[(0, .tmp 26)] rfl #[.int .u8 x] i0 (.int .u8 0) Tryz.underlying33 hi hz0 (by rw [hz1]; decide) (by rw [hz1]; decide) (by
        have h0 : Array.range 0 = #[] := rfl
        rw [hz1]
        simp [Instr.fill, Value.cells, Array.range_succ, h0, Act.eval]) ?_
      exact hK' _ _ (hK _ _ ⟨_, _, _, _, _, _, _, _, _, _, _, _, _, _, _, _, _, _, _, _, rfl, rfl, ⟨Hb1.out.alloc hsz _, fun h => (Hb2.out h).alloc (Hb2.out h).size _, Hl98.out, Hl80.out, fun _ => rfl, fun _ => rfl, Hn9.out, H9.out, Q0.out, Q1.out, Q2.out, Q3.out, Q4.out, Q5.out, Q6.out, fun _ _ => ⟨w1.heap.size, x, rfl, cell_one_new w1 (.int .u8 x) 5 0 _ rfl⟩, fun h => absurd h (by simp [e8])⟩⟩)
    · obtain rfl := Option.some.inj ho
      simp [Region.binds] at h0 hd
      repeat (obtain ⟨hx1, hd⟩ := hd; try subst hx1)
      (try subst h0)
      (try subst hd)
      have e20 := Q0.out rfl
      obtain ⟨g, x, e27, hg⟩ := Q7.out rfl rfl
      subst e20 e27
      have e9 : l9 = false := by
        cases l9 with
        | false => rfl
        | true => exact absurd (Hl98.out rfl) (by simp)
      refine wpOp_step rfl ?_
      intro K' hK'
      rw [if_pos (by rfl)]
      have hsz : mb + 1 ≤ w1.heap.size := Nat.le_trans hbase Hb1.out.size
      obtain ⟨i0, hi, hz0, hz1, hz2⟩ : ∃ i0, Tryz.prog.info? 5 = some i0 ∧ i0.zero = some (.int .u8 0) ∧ i0.size = 1 ∧ i0.bytes = 1 := ⟨_, rfl, rfl, rfl, rfl⟩
      have hown1 := own_below Hown.out (Hb2.out rfl)
      refine wp_append_own w1 (.tmp 20) (.tmp 27) 33 rfl (mb + 1) 5 i0 (.int .u8 0) 1 1 Tryz.underlying33 hi hz0 hz1 hz2 rfl (by decide) v20 k xs rfl hown1 ⟨g, 0, none⟩ 1 1 [.int .u8 x] rfl rfl (fun j u hj => ?_) (by intro u hu; simp at hu; subst hu; rfl) (by simp [maxLen]; omega) (by omega) hsz (fun v' w' h1 h2 _ => ?_)
      · match j, hj with
        | 0, hj => simp at hj; subst hj; simpa [Addr.add] using hg
      exact hK' _ _ (hK _ _ ⟨_, _, _, _, _, _, _, _, _, _, _, _, _, _, _, _, _, _, _, _, rfl, rfl, ⟨Hb1.out.grown h2 hsz (fun q hq => (hown1.lt q hq).1), fun h => (by cases h), fun _ => rfl, fun _ => rfl, fun _ => rfl, Hl76.out, Hn9.out, fun h => absurd h (by simp [e9]), Q0.out, Q1.out, Q2.out, Q3.out, Q4.out, Q5.out, Q6.out, fun _ h => (by cases h), fun _ => ⟨_, h1⟩⟩⟩)
    · obtain rfl := Option.some.inj ho
      simp [Region.binds] at h0 hd
      repeat (obtain ⟨hx1, hd⟩ := hd; try subst hx1)
      (try subst h0)
      (try subst hd)
      refine wpOp_step rfl ?_
      intro K' hK'
      rw [if_pos (by rfl)]
      go_simp
      exact hK' _ _ (hK _ _ ⟨_, _, _, _, _, _, _, _, _, _, _, _, _, _, _, _, _, _, _, _, rfl, rfl, ⟨Hb1.out, Hb2.out, fun _ => rfl, Hl80.out, Hl87.out, Hl76.out, fun h => (by cases h), fun _ => rfl, Q0.out, Q1.out, Q2.out, Q3.out, Q4.out, Q5.out, Q6.out, Q7.out, Q8.out⟩⟩)
end Go.Proofs.YtdkpbobglogmoaaGreat
namespace Go.Proofs.YtdkpbobglogmoaaGreat
open Go.RowKit
theorem code_protect (bb off c : Nat) (ys : List Int) (w : World) (hc : 24 ≤ c) (hbb : bb < w.heap.size) (hpage : ∀ i, i < 24 → w.cell? ⟨bb, off + i, none⟩ = some (.int .u8 (ys.getD i 0))) :
    Calls Tryz.prog 12 #[.slice (some ⟨bb, off, none⟩) 24 c] w fun e w' => (∃ g n, e = .returned (.tuple #[.slice (some ⟨g, 0, none⟩) 3 n, .nilIface])) ∧ Below w.heap.size w w' := by
  have Hpage := Lib.hid hpage
  clear hpage
  go_enter Tryz.func12, Tryz.ntmps12
  go_wp2_with fail
  refine (code_fits _ _ _).mono ?_
  rintro e w' ⟨rfl, rfl⟩
  go_wp2_with fail
  refine (code_places _).mono ?_
  rintro e w1 ⟨⟨ms, hms, rfl⟩, hbe⟩
  match ms, hms with
  | [m0, m1, m2, m3, m4, m5, m6], hms =>
  simp only [maskV, List.map_cons, List.map_nil]
  have hB7 : Blk (w1.alloc (.cells #[.int .u64 m0, .int .u64 m1, .int .u64 m2, .int .u64 m3, .int .u64 m4, .int .u64 m5, .int .u64 m6] 92 (0, 0))) w1.heap.size ([m0, m1, m2, m3, m4, m5, m6].map (Value.int .u64)).toArray 92 := Blk.new w1 _ _
  have hbe7 := (Below.refl w1.heap.size w1).alloc (Nat.le_refl _) (.cells #[.int .u64 m0, .int .u64 m1, .int .u64 m2, .int .u64 m3, .int .u64 m4, .int .u64 m5, .int .u64 m6] 92 (0, 0))
  go_wp2_with fail
  generalize w1.alloc (.cells #[.int .u64 m0, .int .u64 m1, .int .u64 m2, .int .u64 m3, .int .u64 m4, .int .u64 m5, .int .u64 m6] 92 (0, 0)) = W7 at hB7 hbe7 ⊢
  have hsz : w1.heap.size + 1 ≤ W7.heap.size := hB7.lt
  go_loopw [6, 7] (fun p i wr => ∃ (k : Nat) (xs : List Value), k ≤ 3 ∧ i = .int .i64 ((8 * k : Nat) : Int) ∧ wr.ownsRow (w1.heap.size + 1) 5 1 p k xs ∧ Below (w1.heap.size + 1) W7 wr) (fun _ i _ => 24 - (intOf i).toNat)
  case atStart => exact ⟨0, [], by omega, rfl, World.ownsRow_nil _ _ _ _, Below.refl _ _⟩
  case round =>
    obtain ⟨k, xs, hk, rfl, hown, hbw⟩ := hrel
    have Hown := Lib.hid hown
    have Hbw := Lib.hid hbw
    clear hown hbw
    by_cases hlt : k < 3
    · have hd : decide (((8 * k : Nat) : Int) < 24) = true := by simp; omega
      go_wp2_with fail
      refine region9 bb off c w1.heap.size k _ ys [m0, m1, m2, m3, m4, m5, m6] xs wr hlt hc rfl rfl (Nat.lt_succ_of_lt (Nat.lt_of_lt_of_le hbb hbe.size)) (fun i hi => ?_) ?_ Hown.out (Nat.le_trans hsz Hbw.out.size) (fun v6 v20 v21 v22 v23 v24 v25 v26 v27 v28 w5 xs' h1 h2 => ?_)
      · rw [Hbw.out.cell (p := ⟨bb, off + i, none⟩) (Nat.lt_succ_of_lt (Nat.lt_of_lt_of_le hbb hbe.size)), hbe7.cell (p := ⟨bb, off + i, none⟩) (Nat.lt_of_lt_of_le hbb hbe.size), hbe.cell (p := ⟨bb, off + i, none⟩) hbb]
        exact Hpage.out i hi
      · unfold Blk
        rw [Hbw.out.block _ (Nat.lt_succ_self _)]
        exact hB7
      have H1 := Lib.hid h1
      have H2 := Lib.hid (Hbw.out.trans (h2.mono (Nat.le_refl _)))
      clear h1 h2 Hown Hbw
      rename_i K hKK
      refine hKK _ _ ?_
      clear hKK
      go_wp2_with fail
      go_roundw
      case rel => exact ⟨k + 1, xs', by omega, by go_num, H1.out, H2.out⟩
      case measure => simp [intOf]; omega
    · have hd : decide (((8 * k : Nat) : Int) < 24) = false := by simp; omega
      obtain rfl : k = 3 := by omega
      go_wp2_with fail
      obtain ⟨g, cap, rfl, _⟩ := own_form Hown.out (by decide)
      refine bodyPost_ret (v := .tuple #[.slice (some ⟨g, 0, none⟩) 3 cap, .nilIface]) (by simp [results, Tryz.results12, go_sem]) rfl ⟨⟨_, _, rfl⟩, ?_⟩
      exact (hbe.trans (hbe7.mono hbe.size)).trans (Hbw.out.mono (Nat.le_trans hbe.size (Nat.le_succ _)))
end Go.Proofs.YtdkpbobglogmoaaGreat
