/- granarylaw4.OrderFinds, walked. -/
import Derived.Test.YtnjcmhpifdaheaaDoorOrderFault
import Derived.Test.YtnjcmhpifdaheaaDoorOrderFindRef
import Derived.Test.YtnjcmhpifdaheaaDoorOrderFind
import Derived.Test.YtnjcmhpifdaheaaDoorOrderRef
import Derived.Test.YtnjcmhpifdaheaaDoorIntsEq
import Derived.Test.YtnjcmhpifdaheaaDoorTold
import Derived.Test.YtnjcmhpifdaheaaDoorOrderRows
namespace Go.Proofs.YtnjcmhpifdaheaaDoor
open Go.RowKit
set_option linter.unusedVariables false
namespace Ord

theorem LAt.rdI {w : World} {la : Option Addr} {n lc : Nat} {ord : List Nat} (h : LAt w (.slice la n lc) ord) : RdI w la (ord.map fun x => ((x : Nat) : Int)) := by
  by_cases h0 : ord.length = 0
  · exact .inl (by simpa using h0)
  · obtain ⟨lb, rfl, _, hc⟩ := h.inside (by omega)
    refine .inr ⟨lb, 0, rfl, fun i hi => ?_⟩
    have hi' : i < ord.length := by simpa using hi
    rw [Nat.zero_add, hc i hi']
    simp [List.getD, hi']
theorem LAt.shape {w : World} {v : Value} {ord : List Nat} (h : LAt w v ord) : ∃ a c, v = .slice a ord.length c := by
  rcases h with ⟨rfl, rfl⟩ | ⟨g, cap, rfl, _⟩
  · exact ⟨_, _, rfl⟩
  · exact ⟨_, _, rfl⟩

set_option maxRecDepth 100000 in
set_option maxHeartbeats 8000000 in
theorem orderFinds_walk (w : World) (hg : Laid w) (a : Option Addr) (len cap : Nat) (cs : List OCall) (hr : IsCallRow w a len cap cs) :
    Calls Tryd.prog 3 #[.slice a len cap] w fun e w' => e = .returned (.bool true) ∧ Below w.heap.size w w' := by
  obtain ⟨rfl, hlen, hlc, hnil, hcalls⟩ := hr
  have HFt := Lib.hid (ref_fault w a cap cs hcalls (by omega))
  have HC := Lib.hid hcalls
  have HG := Lib.hid hg
  have hgp := hg.pos
  have HB : Hid (∀ w', Keep (fun _ => False) w w' → Below w.heap.size w w') := fun w' hk => hk.below _ (Nat.le_refl _) (fun _ q => q.elim)
  clear hcalls hnil hg
  go_enter Tryd.func3, Tryd.ntmps3
  go_wp2_with fail
  refine HFt.out.mono ?_
  rintro e w1 ⟨rfl, hk1⟩
  have HK1 := Lib.hid hk1
  have HCk := Lib.hid (order_check w1 a cap cs (HC.out.keep hk1) (by omega))
  clear hk1 HFt
  go_wp2_with fail
  refine HCk.out.mono ?_
  rintro e w2 ⟨rfl, hk2⟩
  have HK2 := Lib.hid (HK1.out.trans hk2)
  have HFi := Lib.hid (order_find w2 a cap cs (HC.out.keep HK2.out) (by omega))
  clear hk2 HCk HK1
  go_wp2_with fail
  refine HFi.out.mono ?_
  rintro e w3 ⟨hk3, hend⟩
  have HK3 := Lib.hid (HK2.out.trans hk3)
  clear hk3 HFi HK2
  rcases hend with ⟨hf, rfl⟩ | ⟨hf, hno, rfl⟩ | ⟨hf, r, v, hfirst, rfl, hv⟩
  · rw [show errO (fault cs) = .iface 23 (.int .i64 (fault cs)) by unfold errO; rw [if_neg hf]]
    generalize fault cs = f at *
    have d0 : (f != 0) = true := by simp [hf]
    have HEr := Lib.hid (error_hit f f w3 (HG.out.below hgp (HB.out _ HK3.out)))
    rw [show (f == f) = true by simp] at HEr
    unfold errV at HEr
    clear hf
    go_wp2_with fail
    refine HEr.out.mono ?_
    rintro e w4 ⟨rfl, hb4⟩
    have HB4 := Lib.hid ((HB.out _ HK3.out).trans (hb4.mono HK3.out.size))
    have HEr2 := Lib.hid (error_hit f f w4 (HG.out.below hgp HB4.out))
    rw [show (f == f) = true by simp] at HEr2
    unfold errV at HEr2
    clear hb4 HEr
    go_wp2_with fail
    refine HEr2.out.mono ?_
    rintro e w5 ⟨rfl, hb5⟩
    have HB5 := Lib.hid (HB4.out.trans (hb5.mono HB4.out.size))
    clear hb5 HEr2
    go_wp2_with fail
    go_ret
    exact ⟨rfl, HB5.out⟩
  · rw [show errO (fault cs) = .nilIface by unfold errO; rw [if_pos hf], hf]
    obtain ⟨h10, hpos⟩ := fault_ok hf
    have HNo := Lib.hid hno
    have HPos := Lib.hid hpos
    have HEn := Lib.hid (error_nil 0 w3)
    rw [show ((0 : Int) == 0) = true from rfl] at HEn
    rw [show errO 4 = .iface 23 (.int .i64 4) from rfl]
    clear hf hno hpos
    go_wp2_with fail
    refine HEn.out.mono ?_
    rintro e w4 ⟨rfl, rfl⟩
    clear HEn
    by_cases h7 : 7 < cs.length
    · have d1 : decide ((7 : Int) < (cs.length : Int)) = true := decide_eq_true (by omega)
      clear h7
      go_wp2_with fail
      go_ret
      exact ⟨rfl, HB.out _ HK3.out⟩
    · have d1 : decide ((7 : Int) < (cs.length : Int)) = false := decide_eq_false (by omega)
      have HRf := Lib.hid (ref_findOf cs h10 cs.length [] w3 a cap none 0 (HC.out.keep HK3.out) (.inl ⟨rfl, rfl⟩) (by simp) (by simp))
      rw [show ([] : List Nat).length = 0 from rfl] at HRf
      have HEq := Lib.hid (refFind_eq h10 HPos.out cs.length [] Good.nil (by simp))
      clear h7
      go_wp2_with fail
      refine HRf.out.mono ?_
      rintro e w5 ⟨hk5, ⟨hnone, rfl⟩ | ⟨r, v, hsome, rfl, hv⟩⟩
      · have HK5 := Lib.hid (HK3.out.trans hk5)
        have HEr := Lib.hid (error_hit 4 4 w5 (HG.out.below hgp (HB.out _ HK5.out)))
        rw [show ((4 : Int) == 4) = true from rfl] at HEr
        unfold errV at HEr
        clear hk5 hnone HRf
        go_wp2_with fail
        refine HEr.out.mono ?_
        rintro e w6 ⟨rfl, hb6⟩
        have HB6 := Lib.hid ((HB.out _ HK5.out).trans (hb6.mono HK5.out.size))
        clear hb6
        go_wp2_with fail
        go_ret
        exact ⟨rfl, HB6.out⟩
      · have := HEq.out
        rw [hsome, show who cs [] = start from rfl, HNo.out] at this
        cases this
  · rw [show errO (fault cs) = .nilIface by unfold errO; rw [if_pos hf], hf]
    obtain ⟨h10, hpos⟩ := fault_ok hf
    have HFirst := Lib.hid hfirst
    have HPos := Lib.hid hpos
    have HEn := Lib.hid (error_nil 0 w3)
    rw [show ((0 : Int) == 0) = true from rfl] at HEn
    obtain ⟨hfull, hright⟩ := find_right h10 (show first cs cs.length (who cs []) = some r from hfirst)
    have HFull := Lib.hid hfull
    have HRight := Lib.hid hright
    obtain ⟨va, vc, rfl⟩ := hv.shape
    have HV := Lib.hid hv
    rw [hfull.len]
    clear hf hfirst hpos hfull hright hv
    go_wp2_with fail
    refine HEn.out.mono ?_
    rintro e w4 ⟨rfl, rfl⟩
    clear HEn
    by_cases h7 : 7 < cs.length
    · have d1 : decide ((7 : Int) < (cs.length : Int)) = true := decide_eq_true (by omega)
      have HRr := Lib.hid (ref_right w3 a cap cs va vc r (HC.out.keep HK3.out) HV.out HFull.out.lt (by omega) (by have := HFull.out.len; omega))
      rw [HFull.out.len] at HRr
      clear h7
      go_wp2_with fail
      refine HRr.out.mono ?_
      rintro e w5 ⟨b, rfl, hb, hk5⟩
      obtain rfl : b = true := hb.2 HRight.out
      have HK5 := Lib.hid (HK3.out.trans hk5)
      clear hb hk5 HRr
      go_wp2_with fail
      go_ret
      exact ⟨rfl, HB.out _ HK5.out⟩
    · have d1 : decide ((7 : Int) < (cs.length : Int)) = false := decide_eq_false (by omega)
      have HRf := Lib.hid (ref_findOf cs h10 cs.length [] w3 a cap none 0 (HC.out.keep HK3.out) (.inl ⟨rfl, rfl⟩) (by simp) (by simp))
      rw [show ([] : List Nat).length = 0 from rfl] at HRf
      have HEq := Lib.hid (refFind_eq h10 HPos.out cs.length [] Good.nil (by simp))
      clear h7
      go_wp2_with fail
      refine HRf.out.mono ?_
      rintro e w5 ⟨hk5, ⟨hnone, rfl⟩ | ⟨r', v, hsome, rfl, hv⟩⟩
      · have := HEq.out
        rw [hnone, show who cs [] = start from rfl, HFirst.out] at this
        cases this
      · obtain rfl : r' = r := by
          have := HEq.out
          rw [hsome, show who cs [] = start from rfl, HFirst.out] at this
          simpa using this
        obtain ⟨va', vc', rfl⟩ := hv.shape
        have HK5 := Lib.hid (HK3.out.trans hk5)
        have HIn := Lib.hid (ints_same va va' vc vc' (r'.map fun x => ((x : Nat) : Int)) w5 ((HV.out.keep0 hk5).rdI) hv.rdI (by have := HFull.out.len; simp; omega))
        rw [show (r'.map fun x => ((x : Nat) : Int)).length = cs.length by rw [List.length_map]; exact HFull.out.len] at HIn
        rw [HFull.out.len]
        clear hk5 hsome hv HRf
        go_wp2_with fail
        refine HIn.out.mono ?_
        rintro e w6 ⟨rfl, q, rfl⟩
        go_wp2_with fail
        go_ret
        exact ⟨rfl, HB.out _ (HK5.out.drewN _)⟩
end Ord
end Go.Proofs.YtnjcmhpifdaheaaDoor
