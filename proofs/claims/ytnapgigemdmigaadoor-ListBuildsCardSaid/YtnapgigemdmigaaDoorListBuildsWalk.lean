/- granarylaw3.ListBuilds returns true, and writes nothing that was there. -/
import Derived.Test.YtnapgigemdmigaaDoorBuildRef
import Derived.Test.YtnapgigemdmigaaDoorListWalksWalk
import Derived.Test.YtnapgigemdmigaaDoorBuildAny
namespace Go.Proofs.YtnapgigemdmigaaDoor
open Go.RowKit Go.WideShapes
set_option linter.unusedVariables false

theorem IsRow.nilCap {k : IntKind} {sz : Nat} {w : World} {a : Option Addr} {len cap : Nat} {zs : List Int} (h : IsRow k sz w a len cap zs) : a = none → len = 0 ∧ cap = 0 := fun e => by
  rcases h with ⟨_, h1, h2, _⟩ | ⟨x, h1, _⟩
  · exact ⟨h1, h2⟩
  · rw [e] at h1; cases h1

theorem buildOf_any (a : Option Addr) (c : Nat) (bs : List Int) (at_ : Int) (pa : Option Addr) (pc : Nat) (pages : List Int) (offset long : Int) (w : World) (hr : ∀ w', Below w.heap.size w w' → RdB w' a bs) (hac : a = none → bs.length = 0 ∧ c = 0) (hbyte : ∀ x ∈ bs, 0 ≤ x ∧ x ≤ 255) (hL : bs.length ≤ 16384) (a0 : -9223372036854775808 ≤ at_) (a1 : at_ ≤ 9223372036854775807)
    (hpc : pages.length ≤ pc) (hpr : pages.length = 0 ∨ ∃ b off, pa = some ⟨b, off, none⟩ ∧ b < w.heap.size ∧ ∀ w', Below w.heap.size w w' → ∀ i, i < pages.length → w'.cell? ⟨b, off + i, none⟩ = some (.int .i64 (pages.getD i 0)))
    (hwf : ∀ x ∈ pages, -9223372036854775808 ≤ x ∧ x ≤ 9223372036854775807) (hn : pages.length ≤ 1000000000000000000) (o0 : -9223372036854775808 ≤ offset) (o1 : offset ≤ 9223372036854775807) (l0 : -9223372036854775808 ≤ long) (l1 : long ≤ 9223372036854775807) :
    Calls Tryd.prog 27 #[.slice a bs.length c, .int .i64 at_, .slice pa pages.length pc, .int .i64 offset, .int .i64 long] w (BuildOfEnd (buildRes bs at_ pages offset long) bs.length w) := by
  by_cases h : long < 1 ∨ 2048 < long ∨ offset < 0 ∨ 60 < offset ∨ offset % 4 ≠ 0
  · exact buildOf_early a c bs at_ pa pages.length pc offset long w (hr w (Below.refl _ _)) o0 o1 l0 l1 pages h
  · exact buildOf_late a c bs at_ pa pc pages offset long w hr hac hbyte hL a0 a1 hpc hpr hwf hn (by omega) (by omega) (by omega) (by omega) (by omega)

set_option maxRecDepth 100000 in
set_option maxHeartbeats 8000000 in
theorem listBuilds_walk (w : World) (hg : Laid w) (a : Option Addr) (len cap : Nat) (z : List Int) (hz : IsRow .u8 1 w a len cap z) (at_ : Int) (a0 : -9223372036854775808 ≤ at_) (a1 : at_ ≤ 9223372036854775807)
    (a' : Option Addr) (len' cap' : Nat) (z' : List Int) (hz' : IsRow .i64 8 w a' len' cap' z') (offset : Int) (o0 : -9223372036854775808 ≤ offset) (o1 : offset ≤ 9223372036854775807) (long : Int) (l0 : -9223372036854775808 ≤ long) (l1 : long ≤ 9223372036854775807) :
    Calls Tryd.prog 7 #[.slice a len cap, .int .i64 at_, .slice a' len' cap', .int .i64 offset, .int .i64 long] w fun e w' => e = .returned (.bool true) ∧ Below w.heap.size w w' := by
  have hnone := hz.nilCap
  obtain ⟨xs, rfl, xl, xb, hx⟩ := hz.bytes
  obtain ⟨ps, rfl, pl, pcap, pb, hp⟩ := hz'.ints
  clear hz hz'
  have Xb := Lib.hid xb
  have Hx := Lib.hid hx
  have Pb := Lib.hid pb
  have Hp := Lib.hid hp
  have HG := Lib.hid hg
  have hpos := hg.pos
  have HNone := Lib.hid hnone
  clear xb hx pb hp hg hnone
  by_cases hbig : 16384 < xs.length
  · have HF := Lib.hid (filled_big a xs.length cap w hbig (by omega))
    go_enter Tryd.func7, Tryd.ntmps7
    go_wp2_with fail
    refine HF.out.mono ?_
    rintro e w' ⟨rfl, rfl⟩
    have d1 : decide (16384 < (xs.length : Int)) = true := decide_eq_true (by omega)
    clear HF
    go_wp2
    go_ret
    exact ⟨rfl, Below.refl _ _⟩
  have HF := Lib.hid (filled_ok a cap xs w (by omega) (Hx.out _ (Below.refl _ _)) Xb.out)
  go_enter Tryd.func7, Tryd.ntmps7
  go_wp2_with fail
  refine HF.out.mono ?_
  rintro e w1 ⟨rfl, hm, hbel⟩
  have HM := Lib.hid hm
  have HB := Lib.hid hbel
  have hs1 := hbel.size
  have hml := hm.body.lt
  clear hm hbel HF
  have HNr : Hid (NumsRd w1 w.heap.size a' cap' ps) := ⟨pcap, Hp.out.imp id (fun ⟨b, off, e1, e2, e3⟩ => ⟨b, off, e1, by omega, by omega, fun i hi => e3 w1 HB.out i hi⟩)⟩
  have HBd := Lib.hid (build_any (w.heap.size + 1) w.heap.size xs at_ a' cap' offset long ps w1 HM.out HNr.out a0 a1 Pb.out (by omega) o0 o1 l0 l1)
  obtain ⟨B, hB⟩ : ∃ B, buildRes xs at_ ps offset long = B := ⟨_, rfl⟩
  rw [hB] at HBd
  have HBe := Lib.hid hB
  clear hB
  go_wp2_with fail
  refine HBd.out.mono ?_
  rintro e w2 ⟨rfl, hm2, hk2⟩
  have HM2 := Lib.hid hm2
  have HB2 := Lib.hid (HB.out.trans (hk2.below w.heap.size hs1 (fun k h => by omega)))
  have hs2 := HB2.out.size
  clear hm2 hk2 HBd HNr HM
  have HRf := Lib.hid (buildOf_any a cap xs at_ a' cap' ps offset long w2 (fun w' hw' => Hx.out w' (HB2.out.trans (hw'.mono hs2))) HNone.out Xb.out (by omega) a0 a1 pcap (Hp.out.imp id (fun ⟨b, off, e1, e2, e3⟩ => ⟨b, off, e1, by omega, fun w' hw' => e3 w' (HB2.out.trans (hw'.mono hs2))⟩)) Pb.out (by omega) o0 o1 l0 l1)
  rw [HBe.out] at HRf
  go_wp2_with fail
  refine HRf.out.mono ?_
  rintro e w3 ⟨a2, c2, rfl, hbl, hrd, hbel3⟩
  have HB3 := Lib.hid (HB2.out.trans (hbel3.mono hs2))
  have hs3 := HB3.out.size
  have HM3 := Lib.hid (HM2.out.below hbel3)
  have HRd := Lib.hid hrd
  have HBl := Lib.hid hbl
  have HErr : Hid (Calls Tryd.prog 10 #[errV2 B.e, .int .i64 B.e] w3 fun e w' => e = .returned (.bool true) ∧ Below w3.heap.size w3 w') := by
    by_cases he : B.e = 0
    · unfold errV2
      rw [if_pos he, he]
      exact (error_nil 0 w3).mono fun e w' ⟨h1, h2⟩ => ⟨h1, by subst h2; exact Below.refl _ _⟩
    · unfold errV2
      rw [if_neg he]
      have := error_hit B.e B.e w3 (HG.out.below hpos HB3.out)
      unfold errV at this
      exact this.mono fun e w' ⟨h1, h2⟩ => ⟨by rw [h1]; simp, h2⟩
  clear hrd hbl hbel3 HRf HM2
  obtain ⟨ev, hev⟩ : ∃ ev, errV2 B.e = ev := ⟨_, rfl⟩
  rw [hev] at HErr ⊢
  clear hev
  go_wp2_with fail
  refine HErr.out.mono ?_
  rintro e w4 ⟨rfl, hbel4⟩
  have HB4 := Lib.hid (HB3.out.trans (hbel4.mono hs3))
  have HM4 := Lib.hid (HM3.out.below hbel4)
  have HRd4 : Hid (RdB w4 a2 B.bs) := by
    rcases HRd.out with h | ⟨b, off, e1, e2⟩
    · exact .inl h
    · exact .inr ⟨b, off, e1, fun i hi => below_cell_some hbel4 (e2 i hi)⟩
  have hs4 := HB4.out.size
  clear hbel4 HErr HM3 HRd
  have hread := mem_read_ok (w.heap.size + 1) w.heap.size B.bs 0 xs.length w4 HM4.out (by rw [HBl.out]; omega)
  have HRead := Lib.hid hread
  clear hread
  go_wp2_with fail
  refine HRead.out.mono ?_
  rintro e w5 ⟨g, cap5, rfl, ho5, hb5⟩
  rw [List.drop_zero, List.take_of_length_le (by rw [HBl.out]; omega)] at ho5
  have HB5 := Lib.hid (HB4.out.trans (hb5.mono hs4))
  have HRd5 : Hid (RdB w5 a2 B.bs) := by
    rcases HRd4.out with h | ⟨b, off, e1, e2⟩
    · exact .inl h
    · exact .inr ⟨b, off, e1, fun i hi => below_cell_some hb5 (e2 i hi)⟩
  have hsame := fun c c' => bytes_same (some ⟨g, 0, none⟩) a2 c c' B.bs w5 (RdB.own ho5 HBl.out) HRd5.out (by rw [HBl.out]; omega)
  rw [HBl.out] at hsame
  have HSame := Lib.hid hsame
  clear ho5 hb5 hsame HRead HRd4
  go_wp2_with fail
  refine (HSame.out _ _).mono ?_
  rintro e w6 ⟨rfl, q, rfl⟩
  clear HSame
  go_wp2
  go_ret
  exact ⟨by simp, below_drewN HB5.out q⟩
end Go.Proofs.YtnapgigemdmigaaDoor
