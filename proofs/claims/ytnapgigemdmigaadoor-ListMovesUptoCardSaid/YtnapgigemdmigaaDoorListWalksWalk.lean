/- granarylaw3.ListWalks returns true, and writes nothing that was there. -/
import Derived.Test.YtnapgigemdmigaaDoorWalkRef
import Derived.Test.YtnapgigemdmigaaDoorTold
namespace Go.Proofs.YtnapgigemdmigaaDoor
open Go.RowKit Go.WideShapes
set_option linter.unusedVariables false

theorem IsRow.capLe {k : IntKind} {sz : Nat} {w : World} {a : Option Addr} {len cap : Nat} {zs : List Int} (h : IsRow k sz w a len cap zs) : len ≤ cap := by
  rcases h with ⟨_, h1, h2, _⟩ | ⟨_, _, h, _⟩ <;> omega

set_option maxRecDepth 100000 in
set_option maxHeartbeats 8000000 in
theorem listWalks_walk (w : World) (hg : Laid w) (a : Option Addr) (len cap : Nat) (z : List Int) (hz : IsRow .u8 1 w a len cap z) (first : Int) (f0 : -9223372036854775808 ≤ first) (f1 : first ≤ 9223372036854775807)
    (second : Int) (s0 : -9223372036854775808 ≤ second) (s1 : second ≤ 9223372036854775807) (long : Int) (l0 : -9223372036854775808 ≤ long) (l1 : long ≤ 9223372036854775807) :
    Calls Tryd.prog 8 #[.slice a len cap, .int .i64 first, .int .i64 second, .int .i64 long] w fun e w' => e = .returned (.bool true) ∧ Below w.heap.size w w' := by
  have hcap := hz.capLe
  obtain ⟨xs, rfl, xl, xb, hx⟩ := hz.bytes
  clear hz
  have Xb := Lib.hid xb
  have Hx := Lib.hid hx
  have HG := Lib.hid hg
  have hpos := hg.pos
  clear xb hx hg
  by_cases hbig : 16384 < xs.length
  · have HF := Lib.hid (filled_big a xs.length cap w hbig (by omega))
    go_enter Tryd.func8, Tryd.ntmps8
    go_wp2_with fail
    refine HF.out.mono ?_
    rintro e w' ⟨rfl, rfl⟩
    have d1 : decide (16384 < (xs.length : Int)) = true := decide_eq_true (by omega)
    clear HF
    go_wp2
    go_ret
    exact ⟨rfl, Below.refl _ _⟩
  have HF := Lib.hid (filled_ok a cap xs w (by omega) (Hx.out _ (Below.refl _ _)) Xb.out)
  go_enter Tryd.func8, Tryd.ntmps8
  go_wp2_with fail
  refine HF.out.mono ?_
  rintro e w1 ⟨rfl, hm, hbel⟩
  have HM := Lib.hid hm
  have HB := Lib.hid hbel
  clear hm hbel HF
  have hs1 := HB.out.size
  obtain ⟨⟨k, segs⟩, hR⟩ : ∃ R, walkRes xs first second long = R := ⟨_, rfl⟩
  have HA := Lib.hid (walk_any (w.heap.size + 1) w.heap.size xs first second long w1 HM.out f0 f1 s0 s1 l0 l1)
  rw [hR] at HA
  have HR := Lib.hid hR
  clear hR
  go_wp2_with fail
  refine HA.out.mono ?_
  rintro e w2 ⟨hbel2, hbad, hok⟩
  have HB2 := Lib.hid (HB.out.trans (hbel2.mono hs1))
  have hs2 := HB2.out.size
  have HA2 := Lib.hid (walkOf_any a cap xs first second long w2 (Hx.out _ HB2.out) Xb.out (by omega) hcap f0 f1 s0 s1 l0 l1)
  rw [HR.out] at HA2
  by_cases hk : k = 0
  · subst hk
    obtain ⟨v, rfl, ho⟩ := hok rfl
    obtain ⟨av, cv, rfl, hsr⟩ := segRd_any ho
    obtain ⟨hl1, hl2, hsok, hsum, _⟩ := walkRes_ok _ _ _ _ _ HR.out
    have hln : segs.length ≤ 2048 := by have := segOk_long hsok; omega
    have HSR := Lib.hid hsr
    clear hsr hsok hsum hbel2 hbad hok ho HA HM HB HR
    go_wp2_with fail
    refine HA2.out.mono ?_
    rintro e w3 ⟨hbel3, hbad, hok⟩
    obtain ⟨v, rfl, ho⟩ := hok rfl
    obtain ⟨av', cv', rfl, hsr'⟩ := segRd_any ho
    have HSR3 := Lib.hid (HSR.out.below hbel3)
    have HSR' := Lib.hid hsr'
    have HB3 := Lib.hid (HB2.out.trans (hbel3.mono hs2))
    clear hsr' ho hbad hok hbel3 HA2 HSR
    go_wp2_with fail
    refine (error_nil 0 w3).mono ?_
    rintro e w' ⟨rfl, rfl⟩
    have HSame := Lib.hid (fun c c' => segments_same av av' c c' segs w3 HSR3.out HSR'.out (by omega))
    go_wp2_with fail
    refine (HSame.out _ _).mono ?_
    rintro e w4 ⟨rfl, q, rfl⟩
    clear HSame
    go_wp2
    go_ret
    exact ⟨rfl, below_drewN HB3.out q⟩
  · have hb := hbad hk
    simp only [] at hb
    subst hb
    have HK := Lib.hid hk
    clear hbad hok hbel2 HA HR hk
    go_wp2_with fail
    refine HA2.out.mono ?_
    rintro e w3 ⟨hbel3, hbad, hok⟩
    have hb := hbad HK.out
    simp only [] at hb
    subst hb
    have HB3 := Lib.hid (HB2.out.trans (hbel3.mono hs2))
    have hs3 := HB3.out.size
    clear hbad hok hbel3 HA2
    have EH := Lib.hid (error_hit k k w3 (HG.out.below hpos HB3.out))
    unfold errV at EH
    go_wp2_with fail
    refine EH.out.mono ?_
    rintro e w4 ⟨rfl, hw⟩
    have HB4 := Lib.hid (HB3.out.trans (hw.mono hs3))
    clear hw EH
    have HSame := Lib.hid (fun c c' => segments_same none none c c' [] w4 (.inl rfl) (.inl rfl) (by simp))
    go_wp2_with fail
    refine (HSame.out _ _).mono ?_
    rintro e w5 ⟨rfl, q, rfl⟩
    clear HSame
    go_wp2
    go_ret
    exact ⟨by simp, below_drewN HB4.out q⟩
end Go.Proofs.YtnapgigemdmigaaDoor
