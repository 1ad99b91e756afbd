/- Contract of order.Check. -/
import Derived.Test.YtnjcmhpifdaheaaDoorOrderEnv
import Derived.WalkSpells
import Derived.BigQuiet
import Derived.IntWalk
namespace Go.Proofs.YtnjcmhpifdaheaaDoor
open Go.RowKit
set_option linter.unusedVariables false
namespace Ord

/-- what is wrong with calls, each by itself -/
def badNum (c : OCall) : Prop := c.fr < 0 ∨ c.to_ < 0 ∨ c.lba < 0 ∨ c.val < 0
instance (c : OCall) : Decidable (badNum c) := by unfold badNum; infer_instance
def faultL : List OCall → Int
  | [] => 0
  | c :: r => if badNum c then 1 else if c.to_ ≤ c.fr then 5 else faultL r
def fault (cs : List OCall) : Int := if 10 < cs.length then 3 else faultL cs
def errO (k : Int) : Value := if k = 0 then .nilIface else .iface 23 (.int .i64 k)
theorem faultL_drop (cs : List OCall) (j : Nat) (h : j < cs.length) : faultL (cs.drop j) = if badNum (at_ cs j) then 1 else if (at_ cs j).to_ ≤ (at_ cs j).fr then 5 else faultL (cs.drop (j + 1)) := by
  rw [List.drop_eq_getElem_cons h]
  have e : at_ cs j = cs[j] := by simp [at_, List.getD, h]
  rw [e]; rfl
theorem faultL_ok : ∀ (cs : List OCall), faultL cs = 0 → ∀ c ∈ cs, ¬ badNum c ∧ c.fr < c.to_
  | [], _, c, hc => by cases hc
  | d :: r, h, c, hc => by
    unfold faultL at h
    split at h
    · cases h
    · split at h
      · cases h
      · rcases List.mem_cons.1 hc with rfl | hc
        · exact ⟨by assumption, by omega⟩
        · exact faultL_ok r h c hc
theorem fault_ok {cs : List OCall} (h : fault cs = 0) : cs.length ≤ 10 ∧ ∀ i, i < cs.length → (at_ cs i).fr < (at_ cs i).to_ := by
  unfold fault at h
  split at h
  · cases h
  · refine ⟨by omega, fun i hi => ?_⟩
    have e : at_ cs i = cs[i] := by simp [at_, List.getD, hi]
    rw [e]
    exact (faultL_ok cs h _ (List.getElem_mem hi)).2

/-- a slice of calls -/
def IsCalls (w : World) (a : Option Addr) (cs : List OCall) : Prop := cs.length = 0 ∨ ∃ b off, a = some ⟨b, off, none⟩ ∧ CallsAt w b off cs
theorem IsCalls.keep {w w' : World} {a : Option Addr} {cs : List OCall} (h : IsCalls w a cs) (hk : Keep (fun _ => False) w w') : IsCalls w' a cs :=
  h.imp id fun ⟨b, off, e, hc⟩ => ⟨b, off, e, hc.keep hk (fun q => q)⟩

set_option maxRecDepth 100000 in
set_option maxHeartbeats 4000000 in
theorem order_check (w : World) (a : Option Addr) (cap : Nat) (cs : List OCall) (hc : IsCalls w a cs) (hl : cs.length ≤ 9223372036854775807) :
    Calls Tryd.prog 6 #[.slice a cs.length cap] w fun e w' => e = .returned (errO (fault cs)) ∧ Keep (fun _ => False) w w' := by
  have HC := Lib.hid hc
  clear hc
  by_cases h10 : 10 < cs.length
  · have hd : decide ((10 : Int) < (cs.length : Int)) = true := decide_eq_true (by omega)
    have HE := Lib.hid (show errO (fault cs) = .iface 23 (.int .i64 3) by unfold fault; rw [if_pos h10]; rfl)
    clear h10
    go_enter Tryd.func6, Tryd.ntmps6
    go_wp2
    go_ret
    exact ⟨congrArg Ending.returned HE.out.symm, Keep.refl _ _⟩
  · have hd : decide ((10 : Int) < (cs.length : Int)) = false := decide_eq_false (by omega)
    have HF := Lib.hid (show fault cs = faultL cs by unfold fault; rw [if_neg h10])
    have hl10 : cs.length ≤ 10 := by omega
    clear h10
    go_enter Tryd.func6, Tryd.ntmps6
    go_wp2
    go_loopw [11] (fun i wr => ∃ j : Nat, j ≤ cs.length ∧ i = .int .i64 j ∧ Keep (fun _ => False) w wr ∧ faultL cs = faultL (cs.drop j)) (fun i _ => cs.length - (intOf i).toNat)
    case atStart => exact ⟨0, Nat.zero_le _, rfl, Keep.refl _ _, rfl⟩
    case round =>
      obtain ⟨j, hj, rfl, hk, hf⟩ := hrel
      have HK := Lib.hid hk
      by_cases hjl : j < cs.length
      · have hstep := faultL_drop cs j hjl
        obtain ⟨b, off, rfl, hca⟩ := (HC.out.keep hk).resolve_left (by omega)
        have hcell := hca.2.1 j hjl
        have hb := hca.1
        obtain ⟨⟨fr, to_, isw, lba, val⟩, hat⟩ : ∃ c, at_ cs j = c := ⟨_, rfl⟩
        rw [hat] at hcell hstep
        have c0 : wr.cell? ⟨b, off + j * 5, none⟩ = some (.int .i64 fr) := hcell 0 _ rfl
        have c1 : wr.cell? ⟨b, off + j * 5 + 1, none⟩ = some (.int .i64 to_) := hcell 1 _ rfl
        have c2 : wr.cell? ⟨b, off + j * 5 + 2, none⟩ = some (.bool isw) := hcell 2 _ rfl
        have c3 : wr.cell? ⟨b, off + j * 5 + 3, none⟩ = some (.int .i64 lba) := hcell 3 _ rfl
        have c4 : wr.cell? ⟨b, off + j * 5 + 4, none⟩ = some (.int .i64 val) := hcell 4 _ rfl
        dsimp only at hstep
        have HBad : Hid (badNum ⟨fr, to_, isw, lba, val⟩ ↔ fr < 0 ∨ to_ < 0 ∨ lba < 0 ∨ val < 0) := Iff.rfl
        have HS := Lib.hid hstep
        have HFj := Lib.hid hf
        clear hk hf hca hcell hat hstep
        by_cases b0 : fr < 0
        · have d0 : decide (fr < 0) = true := decide_eq_true b0
          have HE := Lib.hid (show errO (fault cs) = .iface 23 (.int .i64 1) by rw [HF.out, HFj.out, HS.out, if_pos (HBad.out.2 (by omega))]; rfl)
          clear b0
          go_wp2
          go_ret
          exact ⟨congrArg Ending.returned HE.out.symm, HK.out.alloc _⟩
        · have d0 : decide (fr < 0) = false := decide_eq_false b0
          by_cases b1 : to_ < 0
          · have d1 : decide (to_ < 0) = true := decide_eq_true b1
            have HE := Lib.hid (show errO (fault cs) = .iface 23 (.int .i64 1) by rw [HF.out, HFj.out, HS.out, if_pos (HBad.out.2 (by omega))]; rfl)
            clear b0 b1
            go_wp2
            go_ret
            exact ⟨congrArg Ending.returned HE.out.symm, HK.out.alloc _⟩
          · have d1 : decide (to_ < 0) = false := decide_eq_false b1
            by_cases b2 : lba < 0
            · have d2 : decide (lba < 0) = true := decide_eq_true b2
              have HE := Lib.hid (show errO (fault cs) = .iface 23 (.int .i64 1) by rw [HF.out, HFj.out, HS.out, if_pos (HBad.out.2 (by omega))]; rfl)
              clear b0 b1 b2
              go_wp2
              go_ret
              exact ⟨congrArg Ending.returned HE.out.symm, HK.out.alloc _⟩
            · have d2 : decide (lba < 0) = false := decide_eq_false b2
              by_cases b3 : val < 0
              · have d3 : decide (val < 0) = true := decide_eq_true b3
                have HE := Lib.hid (show errO (fault cs) = .iface 23 (.int .i64 1) by rw [HF.out, HFj.out, HS.out, if_pos (HBad.out.2 (by omega))]; rfl)
                clear b0 b1 b2 b3
                go_wp2
                go_ret
                exact ⟨congrArg Ending.returned HE.out.symm, HK.out.alloc _⟩
              · have d3 : decide (val < 0) = false := decide_eq_false b3
                have hno : ¬ badNum ⟨fr, to_, isw, lba, val⟩ := fun q => by have := HBad.out.1 q; omega
                by_cases b4 : to_ ≤ fr
                · have d4 : decide (to_ ≤ fr) = true := decide_eq_true b4
                  have HE := Lib.hid (show errO (fault cs) = .iface 23 (.int .i64 5) by rw [HF.out, HFj.out, HS.out, if_neg hno, if_pos b4]; rfl)
                  clear b0 b1 b2 b3 b4 hno
                  go_wp2
                  go_ret
                  exact ⟨congrArg Ending.returned HE.out.symm, HK.out.alloc _⟩
                · have d4 : decide (to_ ≤ fr) = false := decide_eq_false b4
                  have HE := Lib.hid (show faultL cs = faultL (cs.drop (j + 1)) by rw [HFj.out, HS.out, if_neg hno, if_neg b4])
                  clear b0 b1 b2 b3 b4 hno
                  go_wp2
                  go_roundw
                  case rel => exact ⟨j + 1, by omega, by go_num, HK.out.alloc _, HE.out⟩
                  case measure => simp [intOf]; omega
      · obtain rfl : j = cs.length := by omega
        have HE := Lib.hid (show errO (fault cs) = .nilIface by rw [HF.out, hf, List.drop_length]; rfl)
        clear hf hk
        go_wp2
        go_ret
        exact ⟨congrArg Ending.returned HE.out.symm, HK.out⟩
end Ord
end Go.Proofs.YtnjcmhpifdaheaaDoor
