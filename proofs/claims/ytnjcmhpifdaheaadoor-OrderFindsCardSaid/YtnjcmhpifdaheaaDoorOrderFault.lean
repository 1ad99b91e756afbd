/- Contract of granaryref2.CallsFault. -/
import Derived.Test.YtnjcmhpifdaheaaDoorOrderCheck
namespace Go.Proofs.YtnjcmhpifdaheaaDoor
open Go.RowKit
set_option linter.unusedVariables false
namespace Ord

set_option maxRecDepth 100000 in
set_option maxHeartbeats 4000000 in
theorem ref_fault (w : World) (a : Option Addr) (cap : Nat) (cs : List OCall) (hc : IsCalls w a cs) (hl : cs.length ≤ 9223372036854775807) :
    Calls Tryd.prog 5 #[.slice a cs.length cap] w fun e w' => e = .returned (.int .i64 (fault cs)) ∧ Keep (fun _ => False) w w' := by
  have HC := Lib.hid hc
  clear hc
  by_cases h10 : 10 < cs.length
  · have hd : decide ((10 : Int) < (cs.length : Int)) = true := decide_eq_true (by omega)
    have HE := Lib.hid (show fault cs = 3 by unfold fault; rw [if_pos h10])
    clear h10
    go_enter Tryd.func5, Tryd.ntmps5
    go_wp2
    go_ret
    exact ⟨(by rw [HE.out]; rfl), Keep.refl _ _⟩
  · have hd : decide ((10 : Int) < (cs.length : Int)) = false := decide_eq_false (by omega)
    have HF := Lib.hid (show fault cs = faultL cs by unfold fault; rw [if_neg h10])
    have hl10 : cs.length ≤ 10 := by omega
    clear h10
    go_enter Tryd.func5, Tryd.ntmps5
    go_wp2
    go_loopw [3] (fun i wr => ∃ j : Nat, j ≤ cs.length ∧ i = .int .i64 j ∧ Keep (fun _ => False) w wr ∧ faultL cs = faultL (cs.drop j)) (fun i _ => cs.length - (intOf i).toNat)
    case atStart => exact ⟨0, Nat.zero_le _, rfl, Keep.refl _ _, rfl⟩
    case round =>
      obtain ⟨j, hj, rfl, hk, hf⟩ := hrel
      have HK := Lib.hid hk
      by_cases hjl : j < cs.length
      · have hstep := faultL_drop cs j hjl
        obtain ⟨b, off, rfl, hca⟩ := (HC.out.keep hk).resolve_left (by omega)
        have hcell := hca.2.1 j hjl
        have hb := hca.1
        obtain ⟨⟨fr, to_, isw, lba, val⟩, hat⟩ : ∃ c, at_ cs j = c := ⟨_, rfl⟩
        rw [hat] at hcell hstep
        have c0 : wr.cell? ⟨b, off + j * 5, none⟩ = some (.int .i64 fr) := hcell 0 _ rfl
        have c1 : wr.cell? ⟨b, off + j * 5 + 1, none⟩ = some (.int .i64 to_) := hcell 1 _ rfl
        have c2 : wr.cell? ⟨b, off + j * 5 + 2, none⟩ = some (.bool isw) := hcell 2 _ rfl
        have c3 : wr.cell? ⟨b, off + j * 5 + 3, none⟩ = some (.int .i64 lba) := hcell 3 _ rfl
        have c4 : wr.cell? ⟨b, off + j * 5 + 4, none⟩ = some (.int .i64 val) := hcell 4 _ rfl
        dsimp only at hstep
        have HBad : Hid (badNum ⟨fr, to_, isw, lba, val⟩ ↔ fr < 0 ∨ to_ < 0 ∨ lba < 0 ∨ val < 0) := Iff.rfl
        have HS := Lib.hid hstep
        have HFj := Lib.hid hf
        clear hk hf hca hcell hat hstep
        by_cases b0 : fr < 0
        · have d0 : decide (fr < 0) = true := decide_eq_true b0
          have HE := Lib.hid (show fault cs = 1 by rw [HF.out, HFj.out, HS.out, if_pos (HBad.out.2 (by omega))])
          clear b0
          go_wp2
          go_ret
          exact ⟨(by rw [HE.out]; rfl), HK.out⟩
        · have d0 : decide (fr < 0) = false := decide_eq_false b0
          by_cases b1 : to_ < 0
          · have d1 : decide (to_ < 0) = true := decide_eq_true b1
            have HE := Lib.hid (show fault cs = 1 by rw [HF.out, HFj.out, HS.out, if_pos (HBad.out.2 (by omega))])
            clear b0 b1
            go_wp2
            go_ret
            exact ⟨(by rw [HE.out]; rfl), HK.out⟩
          · have d1 : decide (to_ < 0) = false := decide_eq_false b1
            by_cases b2 : lba < 0
            · have d2 : decide (lba < 0) = true := decide_eq_true b2
              have HE := Lib.hid (show fault cs = 1 by rw [HF.out, HFj.out, HS.out, if_pos (HBad.out.2 (by omega))])
              clear b0 b1 b2
              go_wp2
              go_ret
              exact ⟨(by rw [HE.out]; rfl), HK.out⟩
            · have d2 : decide (lba < 0) = false := decide_eq_false b2
              by_cases b3 : val < 0
              · have d3 : decide (val < 0) = true := decide_eq_true b3
                have HE := Lib.hid (show fault cs = 1 by rw [HF.out, HFj.out, HS.out, if_pos (HBad.out.2 (by omega))])
                clear b0 b1 b2 b3
                go_wp2
                go_ret
                exact ⟨(by rw [HE.out]; rfl), HK.out⟩
              · have d3 : decide (val < 0) = false := decide_eq_false b3
                have hno : ¬ badNum ⟨fr, to_, isw, lba, val⟩ := fun q => by have := HBad.out.1 q; omega
                by_cases b4 : to_ ≤ fr
                · have d4 : decide (to_ ≤ fr) = true := decide_eq_true b4
                  have HE := Lib.hid (show fault cs = 5 by rw [HF.out, HFj.out, HS.out, if_neg hno, if_pos b4])
                  clear b0 b1 b2 b3 b4 hno
                  go_wp2
                  go_region
                  go_wp2
                  go_ret
                  exact ⟨(by rw [HE.out]; rfl), HK.out.drew⟩
                · have d4 : decide (to_ ≤ fr) = false := decide_eq_false b4
                  have HE := Lib.hid (show faultL cs = faultL (cs.drop (j + 1)) by rw [HFj.out, HS.out, if_neg hno, if_neg b4])
                  clear b0 b1 b2 b3 b4 hno
                  go_wp2
                  go_region
                  go_wp2
                  go_roundw
                  case rel => exact ⟨j + 1, by omega, by go_num, HK.out.drew, HE.out⟩
                  case measure => simp [intOf]; omega
      · obtain rfl : j = cs.length := by omega
        have HE := Lib.hid (show fault cs = 0 by rw [HF.out, hf, List.drop_length]; rfl)
        clear hf hk
        go_wp2
        go_ret
        exact ⟨(by rw [HE.out]; rfl), HK.out⟩
end Ord
end Go.Proofs.YtnjcmhpifdaheaaDoor
