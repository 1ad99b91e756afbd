/- granarylaw4.OrderStale, walked. -/
import Derived.Test.YtnjcmhpifdaheaaDoorOrderRows
import Derived.Test.YtnjcmhpifdaheaaDoorOrderFind
import Derived.Test.YtnjcmhpifdaheaaDoorIntsEq
import Derived.Test.YtnjcmhpifdaheaaDoorPick
import Derived.Test.YtnjcmhpifdaheaaDoorTold
namespace Go.Proofs.YtnjcmhpifdaheaaDoor
open Go.RowKit
set_option linter.unusedVariables false
namespace Ord

/-- a write, and a read behind it -/
def stale (x b v t : Int) : List OCall := [⟨x, x + 1, true, b, v⟩, ⟨x + 1, x + 2, false, b, t⟩]
theorem stale_fault (x b v t : Int) (hx : 0 ≤ x) (hb : 0 ≤ b) (hv : 0 ≤ v) (ht : 0 ≤ t) : fault (stale x b v t) = 0 := by
  have h1 : ¬ badNum ⟨x, x + 1, true, b, v⟩ := by unfold badNum; dsimp only; omega
  have h2 : ¬ badNum ⟨x + 1, x + 2, false, b, t⟩ := by unfold badNum; dsimp only; omega
  have e : fault (stale x b v t) = faultL (stale x b v t) := by unfold fault stale; rw [if_neg (by simp)]
  rw [e]
  unfold stale faultL
  rw [if_neg h1, if_neg (by dsimp only; omega)]
  unfold faultL
  rw [if_neg h2, if_neg (by dsimp only; omega)]
  rfl
theorem stale_at0 (x b v t : Int) : at_ (stale x b v t) 0 = ⟨x, x + 1, true, b, v⟩ := rfl
theorem stale_at1 (x b v t : Int) : at_ (stale x b v t) 1 = ⟨x + 1, x + 2, false, b, t⟩ := rfl
theorem stale_name1 (x b v t : Int) : nameOf (stale x b v t) 1 = 0 := by
  unfold nameOf
  rw [stale_at1]
  simp [stale, List.findIdx_cons]
theorem stale_name0 (x b v t : Int) : nameOf (stale x b v t) 0 = 0 := by
  unfold nameOf
  rw [stale_at0]
  simp [stale, List.findIdx_cons]
theorem stale_ok0 (x b v t : Int) : ok (stale x b v t) start 0 = true := by
  have e : List.range (stale x b v t).length = [0, 1] := rfl
  unfold ok
  rw [e]
  simp only [List.all_cons, List.all_nil]
  have d0 : decide ((at_ (stale x b v t) 0).to_ ≤ (at_ (stale x b v t) 0).fr) = false := decide_eq_false (by rw [stale_at0]; dsimp only; omega)
  have d1 : decide ((at_ (stale x b v t) 1).to_ ≤ (at_ (stale x b v t) 0).fr) = false := decide_eq_false (by rw [stale_at0, stale_at1]; dsimp only; omega)
  rw [d0, d1]
  rfl
theorem stale_no1 (x b v t : Int) : ok (stale x b v t) start 1 = false := by
  have e : List.range (stale x b v t).length = [0, 1] := rfl
  unfold ok
  rw [e]
  simp only [List.all_cons, List.all_nil]
  have d0 : decide ((at_ (stale x b v t) 0).to_ ≤ (at_ (stale x b v t) 1).fr) = true := decide_eq_true (by rw [stale_at0, stale_at1]; dsimp only; omega)
  rw [d0]
  have e0 : start.done.testBit 0 = false := rfl
  rw [e0]
  simp
theorem stale_next (x b v t : Int) : next (stale x b v t) start 0 = ⟨1, [1, 0, 0, 0, 0, 0, 0, 0, 0, 0]⟩ := by
  unfold next
  rw [stale_at0, stale_name0]
  rfl
theorem stale_no0 (x b v t : Int) : ok (stale x b v t) ⟨1, [1, 0, 0, 0, 0, 0, 0, 0, 0, 0]⟩ 0 = false := by
  unfold ok
  have e0 : (1 : Nat).testBit 0 = true := rfl
  rw [e0]
  rfl
theorem stale_ok1 (x b v t : Int) : ok (stale x b v t) ⟨1, [1, 0, 0, 0, 0, 0, 0, 0, 0, 0]⟩ 1 = decide (v = t) := by
  have e : List.range (stale x b v t).length = [0, 1] := rfl
  have hc : cur (stale x b v t) ⟨1, [1, 0, 0, 0, 0, 0, 0, 0, 0, 0]⟩ 1 = v := by
    unfold cur
    rw [stale_name1]
    rfl
  unfold ok
  rw [e, hc]
  simp only [List.all_cons, List.all_nil]
  have d1 : decide ((at_ (stale x b v t) 1).to_ ≤ (at_ (stale x b v t) 1).fr) = false := decide_eq_false (by rw [stale_at1]; dsimp only; omega)
  have e0 : (1 : Nat).testBit 0 = true := rfl
  have e1 : (1 : Nat).testBit 1 = false := rfl
  rw [d1, e0, e1, stale_at1]
  simp
theorem stale_first (x b v t : Int) : first (stale x b v t) (stale x b v t).length start = if v = t then some [0, 1] else none := by
  have e : List.range (stale x b v t).length = [0, 1] := rfl
  show first (stale x b v t) 2 start = _
  have h1 : first (stale x b v t) 1 ⟨1, [1, 0, 0, 0, 0, 0, 0, 0, 0, 0]⟩ = if v = t then some [1] else none := by
    unfold first
    rw [e]
    simp only [List.findSome?_cons, List.findSome?_nil, stale_no0, stale_ok1]
    by_cases h : v = t
    · simp [h, first]
    · simp [h]
  unfold first
  rw [e]
  simp only [List.findSome?_cons, List.findSome?_nil, stale_ok0, stale_no1, stale_next, h1]
  by_cases h : v = t
  · simp [h]
  · simp [h]

set_option maxRecDepth 100000 in
set_option maxHeartbeats 8000000 in
theorem orderStale_walk (w : World) (hg : Laid w) (lba : Int) (l0 : -9223372036854775808 ≤ lba) (l1 : lba ≤ 9223372036854775807) (value : Int) (v0 : -9223372036854775808 ≤ value) (v1 : value ≤ 9223372036854775807)
    (told : Int) (t0 : -9223372036854775808 ≤ told) (t1 : told ≤ 9223372036854775807) (at_ : Int) (a0 : -9223372036854775808 ≤ at_) (a1 : at_ ≤ 9223372036854775807) :
    Calls Tryd.prog 4 #[.int .i64 lba, .int .i64 value, .int .i64 told, .int .i64 at_] w fun e w' => e = .returned (.bool true) ∧ Below w.heap.size w w' := by
  have HP0 := Lib.hid (pick_any lba 1000 w l0 l1 (by omega) (by omega))
  have HP1 := Lib.hid (pick_any value 1000 w v0 v1 (by omega) (by omega))
  have HP2 := Lib.hid (pick_any told 1002 w t0 t1 (by omega) (by omega))
  have HP3 := Lib.hid (pick_any at_ 1000 w a0 a1 (by omega) (by omega))
  have hb0 := pickOf_0 lba 1000 (by omega)
  have hb1 := pickOf_lt lba 1000 (by omega)
  have hv0 := pickOf_0 value 1000 (by omega)
  have hv1 := pickOf_lt value 1000 (by omega)
  have ht0 := pickOf_0 told 1002 (by omega)
  have ht1 := pickOf_lt told 1002 (by omega)
  have hx0 := pickOf_0 at_ 1000 (by omega)
  have hx1 := pickOf_lt at_ 1000 (by omega)
  generalize pickOf lba 1000 = b at *
  generalize pickOf value 1000 = vp at *
  generalize pickOf told 1002 = t at *
  generalize pickOf at_ 1000 = x at *
  have e1 : IntKind.i64.wrap (1 + vp) = 1 + vp := IntWalk.i64_in _ (by omega)
  have e2 : IntKind.i64.wrap (x + 1) = x + 1 := IntWalk.i64_in _ (by omega)
  have e3 : IntKind.i64.wrap (x + 2) = x + 2 := IntWalk.i64_in _ (by omega)
  have HB : Hid (∀ w', Keep (fun _ => False) w w' → Below w.heap.size w w') := fun w' hk => hk.below _ (Nat.le_refl _) (fun _ q => q.elim)
  have HG := Lib.hid hg
  have hgp := hg.pos
  have hRow0 : MRow w.heap.size (w.alloc (.cells #[.int .i64 x, .int .i64 (x + 1), .bool true, .int .i64 b, .int .i64 (1 + vp), .int .i64 (x + 1), .int .i64 (x + 2), .bool false, .int .i64 b, .int .i64 t] 39)) (.slice (some ⟨w.heap.size, 0, none⟩) 2 2) (stale x b (1 + vp) t) :=
    World.ownsRow_lit w #[.int .i64 x, .int .i64 (x + 1), .bool true, .int .i64 b, .int .i64 (1 + vp), .int .i64 (x + 1), .int .i64 (x + 2), .bool false, .int .i64 b, .int .i64 t] 2 (Nat.le_refl _) (by decide) rfl
  have hFind := order_find _ (some ⟨w.heap.size, 0, none⟩) 2 (stale x b (1 + vp) t) (hRow0.isCalls (fun i hi => by
    match i, hi with
    | 0, _ => exact ⟨show (Lit.int .i64 x).wf = true from wf_in (by omega) (by omega), show (Lit.int .i64 (x + 1)).wf = true from wf_in (by omega) (by omega), show (Lit.int .i64 b).wf = true from wf_in (by omega) (by omega), show (Lit.int .i64 (1 + vp)).wf = true from wf_in (by omega) (by omega)⟩
    | 1, _ => exact ⟨show (Lit.int .i64 (x + 1)).wf = true from wf_in (by omega) (by omega), show (Lit.int .i64 (x + 2)).wf = true from wf_in (by omega) (by omega), show (Lit.int .i64 b).wf = true from wf_in (by omega) (by omega), show (Lit.int .i64 t).wf = true from wf_in (by omega) (by omega)⟩)) (by show 2 ≤ _; omega)
  rw [show (stale x b (1 + vp) t).length = 2 from rfl] at hFind
  have hfirst := stale_first x b (1 + vp) t
  have hfault := stale_fault x b (1 + vp) t hx0 hb0 (by omega) ht0
  have HFind := Lib.hid hFind
  have HFirst := Lib.hid hfirst
  have HFault := Lib.hid hfault
  clear hRow0 hFind hfirst hfault hg
  go_enter Tryd.func4, Tryd.ntmps4
  go_wp2_with fail
  refine HP0.out.mono ?_
  rintro e w' ⟨rfl, rfl⟩
  go_wp2_with fail
  refine HP1.out.mono ?_
  rintro e w' ⟨rfl, rfl⟩
  go_wp2_with fail
  refine HP2.out.mono ?_
  rintro e w' ⟨rfl, rfl⟩
  go_wp2_with fail
  refine HP3.out.mono ?_
  rintro e w' ⟨rfl, rfl⟩
  clear HP0 HP1 HP2 HP3
  go_wp2_with fail
  refine HFind.out.mono ?_
  rintro e w1 ⟨hk1, hend⟩
  have HK1 := Lib.hid (show Keep (fun _ => False) w w1 from ((Keep.refl _ _).alloc _).trans hk1)
  by_cases hvt : 1 + vp = t
  · have d0 : (t == 1 + vp) = true := by simp [hvt]
    obtain ⟨g0, cp0, rfl, hlt0, hc0⟩ : ∃ g cp, e = .returned (.tuple #[.slice (some ⟨g, 0, none⟩) 2 cp, .nilIface]) ∧ g < w1.heap.size ∧ ∀ i, i < 2 → w1.cell? ⟨g, i, none⟩ = some (.int .i64 (([0, 1] : List Int).getD i 0)) := by
      have hF := HFirst.out
      rw [if_pos hvt] at hF
      rcases hend with ⟨h, _⟩ | ⟨_, h, _⟩ | ⟨_, r', v, h, he, hv⟩
      · exact absurd HFault.out h
      · rw [hF] at h; cases h
      · rw [hF] at h
        cases h
        rcases hv with ⟨_, h⟩ | ⟨g, cp, rfl, _, _, hlt, hcl⟩
        · cases h
        · refine ⟨g, cp, he, hlt, fun i hi => ?_⟩
          rw [hcl i hi]
          match i, hi with
          | 0, _ => rfl
          | 1, _ => rfl
    have HIn := Lib.hid (ints_same (some ⟨g0, 0, none⟩) (some ⟨w1.heap.size, 0, none⟩) cp0 2 [0, 1] (w1.alloc (.cells #[.int .i64 0, .int .i64 1] 3))
      (.inr ⟨g0, 0, rfl, fun i hi => by rw [Nat.zero_add]; exact Lib.cell?_alloc_some _ (hc0 i hi)⟩) (.inr ⟨w1.heap.size, 0, rfl, fun i hi => by
        rw [Nat.zero_add, (Blk.new w1 #[.int .i64 0, .int .i64 1] 3).cell]
        match i, hi with
        | 0, _ => rfl
        | 1, _ => rfl⟩) (by decide))
    clear hk1 hend hc0 hvt
    go_wp2_with fail
    refine HIn.out.mono ?_
    rintro e w9 ⟨rfl, k, rfl⟩
    go_wp2_with fail
    go_ret
    exact ⟨rfl, HB.out _ ((HK1.out.alloc _).drewN _)⟩
  · have d0 : (t == 1 + vp) = false := by simp; exact fun q => hvt q.symm
    obtain rfl : e = .returned (.tuple #[.slice none 0 0, .iface 23 (.int .i64 4)]) := by
      have hF := HFirst.out
      rw [if_neg hvt] at hF
      rcases hend with ⟨h, _⟩ | ⟨_, h, he⟩ | ⟨_, r', v, h, he, hv⟩
      · exact absurd HFault.out h
      · exact he
      · rw [hF] at h; cases h
    have HEr := Lib.hid (error_hit 4 4 w1 (HG.out.below hgp (HB.out _ HK1.out)))
    unfold errV at HEr
    clear hk1 hend hvt
    go_wp2_with fail
    refine HEr.out.mono ?_
    rintro e w9 ⟨rfl, hw9⟩
    have HW9 := Lib.hid ((HB.out _ HK1.out).trans (hw9.mono HK1.out.size))
    clear hw9
    go_wp2_with fail
    go_ret
    exact ⟨rfl, HW9.out⟩
end Ord
end Go.Proofs.YtnjcmhpifdaheaaDoor
