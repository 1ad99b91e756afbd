/- Contract of list.Walk. -/
import Derived.Test.YtnapgigemdmigaaDoorListW
namespace Go.Proofs.YtnapgigemdmigaaDoor
open Go.RowKit Go.WideShapes
set_option linter.unusedVariables false

def WalkEnd (R : Int × List (Int × Int)) (w : World) (e : Ending) (w' : World) : Prop :=
  Below w.heap.size w w' ∧ (R.1 ≠ 0 → e = .returned (.tuple #[.slice none 0 0, .iface 29 (.int .i64 R.1)])) ∧
  (R.1 = 0 → ∃ v, e = .returned (.tuple #[v, .nilIface]) ∧ w'.ownsRow w.heap.size 43 2 v R.2.length (segCells R.2))
theorem WalkEnd.bad {w w' : World} (k : Int) (hk : k ≠ 0) (hb : Below w.heap.size w w') : WalkEnd (k, []) w (.returned (.tuple #[.slice none 0 0, .iface 29 (.int .i64 k)])) w' :=
  ⟨hb, fun _ => rfl, fun h => absurd h hk⟩
theorem WalkAt.out {w w0 : World} {b : Nat} {left : Int} {segs : List (Int × Int)} (h : WalkAt w w0.heap.size b left segs) : ∃ v, w.cell? ⟨w0.heap.size, 2, none⟩ = some v ∧ w.ownsRow w0.heap.size 43 2 v segs.length (segCells segs) := by
  obtain ⟨v, hb, ho⟩ := h
  have := hb.cell 2
  refine ⟨v, by simpa using this, ?_⟩
  obtain ⟨hl, h | ⟨g, cap, cur, hv, h1, h2⟩⟩ := ho
  · exact ⟨hl, .inl h⟩
  · exact ⟨hl, .inr ⟨g, cap, cur, hv, by omega, h2⟩⟩

set_option maxRecDepth 100000 in
set_option maxHeartbeats 8000000 in
theorem walk_early (b mb : Nat) (bs : List Int) (first second long : Int) (w : World) (f0 : -9223372036854775808 ≤ first) (f1 : first ≤ 9223372036854775807) (l0 : -9223372036854775808 ≤ long) (l1 : long ≤ 9223372036854775807)
    (h : long < 1 ∨ 2048 < long ∨ first % 4 ≠ 0 ∨ first < 0) :
    Calls Tryd.prog 28 #[.pointer (some ⟨b, 0, none⟩), .int .i64 first, .int .i64 second, .int .i64 long] w (WalkEnd (walkRes bs first second long) w) := by
  have ht : Int.tmod first 4 = 0 ↔ first % 4 = 0 := by
    rw [← Int.dvd_iff_tmod_eq_zero, ← Int.dvd_iff_emod_eq_zero]
  unfold walkRes
  by_cases c1 : long < 1
  · rw [if_pos (.inl c1)]
    go_enter Tryd.func28, Tryd.ntmps28
    go_wp2
    go_ret2
    exact WalkEnd.bad 1 (by omega) (Below.refl _ _)
  by_cases c2 : 2048 < long
  · rw [if_pos (.inr c2)]
    go_enter Tryd.func28, Tryd.ntmps28
    go_wp2
    go_ret2
    exact WalkEnd.bad 1 (by omega) (Below.refl _ _)
  rw [if_neg (by omega)]
  by_cases c3 : first % 4 = 0
  · have c4 : first < 0 := by omega
    rw [if_neg (by omega), if_pos c4]
    have hb : (Int.tmod first 4 == 0) = true := by simp; exact ht.2 c3
    have hb2 : (Int.tmod first 4 != 0) = false := by simp; exact ht.2 c3
    clear ht c3 h
    go_enter Tryd.func28, Tryd.ntmps28
    go_wp2
    go_ret2
    exact WalkEnd.bad 1 (by omega) (Below.refl _ _)
  · rw [if_pos c3]
    by_cases c5 : 0 ≤ first
    · have hb : (first % 4 == 0) = false := by simp; exact c3
      have hb2 : (first % 4 != 0) = true := by simp; exact c3
      clear ht c3 h
      go_enter Tryd.func28, Tryd.ntmps28
      go_wp2
      go_ret2
      exact WalkEnd.bad 2 (by omega) (Below.refl _ _)
    · have hb : (Int.tmod first 4 == 0) = false := by simp; exact fun q => c3 (ht.1 q)
      have hb2 : (Int.tmod first 4 != 0) = true := by simp; exact fun q => c3 (ht.1 q)
      clear ht c3 h
      go_enter Tryd.func28, Tryd.ntmps28
      go_wp2
      go_ret2
      exact WalkEnd.bad 2 (by omega) (Below.refl _ _)

set_option maxHeartbeats 2000000 in
theorem walker_list_shape (wb : Nat) (x : Int) (w : World) (x0 : -9223372036854775808 ≤ x) (x1 : x ≤ 9223372036854775807) (hp : x < 0 ∨ x % 8 ≠ 0) :
    Calls Tryd.prog 44 #[.pointer (some ⟨wb, 0, none⟩), .int .i64 x] w fun e w' => e = .returned shapeErr ∧ w = w' := by
  have HA := Lib.hid (aligned_any x 8 w x0 x1 (by omega) (by omega))
  rw [show decide (0 ≤ x ∧ x % 8 = 0) = false from decide_eq_false (by omega)] at HA
  clear hp
  go_enter Tryd.func44, Tryd.ntmps44
  go_wp2_with fail
  refine HA.out.mono ?_
  rintro e w' ⟨rfl, rfl⟩
  go_wp2
  go_ret
  exact ⟨rfl, rfl⟩

set_option maxRecDepth 100000 in
set_option maxHeartbeats 8000000 in
theorem walk_late (b mb : Nat) (bs : List Int) (first second long : Int) (w : World) (hm : MemAt w b mb bs) (f1 : first ≤ 9223372036854775807) (s0 : -9223372036854775808 ≤ second) (s1 : second ≤ 9223372036854775807)
    (h1 : 1 ≤ long) (h2 : long ≤ 2048) (h3 : first % 4 = 0) (h4 : 0 ≤ first) :
    Calls Tryd.prog 28 #[.pointer (some ⟨b, 0, none⟩), .int .i64 first, .int .i64 second, .int .i64 long] w (WalkEnd (walkRes bs first second long) w) := by
  have hmb := hm.body.lt
  have hbb := hm.head.lt
  have HM := Lib.hid hm
  have hbel1 : Below w.heap.size w (w.alloc (.cells #[.pointer (some ⟨b, 0, none⟩), .int .i64 long, .slice none 0 0] 102)) := (Below.refl _ _).alloc (Nat.le_refl _) _
  have hwalk : WalkAt (w.alloc (.cells #[.pointer (some ⟨b, 0, none⟩), .int .i64 long, .slice none 0 0] 102)) w.heap.size b long [] := Exists.intro (.slice none 0 0) ⟨Blk.new _ _ _, World.ownsRow_nil _ _ _ _⟩
  have HB1 := Lib.hid hbel1
  have HW1 := Lib.hid hwalk
  have HM1 := Lib.hid (hm.below hbel1)
  clear hm hbel1 hwalk
  have hb : (first % 4 == 0) = true := by simp; exact h3
  have hb2 : (first % 4 != 0) = false := by simp; exact h3
  obtain ⟨R, hR⟩ : ∃ R, walkRes bs first second long = R := ⟨_, rfl⟩
  rw [hR]
  unfold walkRes at hR
  rw [if_neg (by omega), if_neg (by omega), if_neg (by omega)] at hR
  have HR0 := Lib.hid hR
  clear hR
  have hroom0 : 0 ≤ 64 - first % 64 := by omega
  have hroom1 : 64 - first % 64 ≤ 64 := by omega
  clear h3
  go_enter Tryd.func28, Tryd.ntmps28
  go_wp2_with fail
  clear hb hb2
  generalize w.alloc _ = w1 at *
  generalize 64 - first % 64 = room at *
  cases hf : memFits bs.length first (min room long) with
  | false =>
    have HA := Lib.hid (walker_add_bad w.heap.size b mb bs first room long [] w1 HM1.out HW1.out (by omega) f1 hroom0 hroom1 (by omega) h2 hf)
    unfold memRangeErr at HA
    have hR := HR0.out
    rw [hf, if_pos rfl] at hR
    have HR := Lib.hid hR
    refine HA.out.mono ?_
    rintro e w' ⟨rfl, rfl⟩
    clear HA hf hR HR0
    go_wp2
    go_ret2
    rw [← HR.out]; exact WalkEnd.bad 1 (by omega) HB1.out
  | true =>
    have HA := Lib.hid (walker_add_ok w.heap.size b mb bs first room long [] w1 HM1.out HW1.out hbb hmb (by simp) hroom0 hroom1 (by omega) h2 hf)
    have hR := HR0.out
    rw [hf, if_neg (by simp)] at hR
    have HR1 := Lib.hid hR
    clear HR0 hR
    refine HA.out.mono ?_
    rintro e w2 ⟨rfl, hw2, hbel2⟩
    rw [List.nil_append] at hw2
    have hc1 := hw2.c1
    have hB2 := HB1.out.trans hbel2
    have HB2 := Lib.hid hB2
    have HM2 := Lib.hid (HM.out.below hB2)
    have HW2 := Lib.hid hw2
    clear hw2 hbel2 hB2 HA hf HB1 HW1 HM1
    have hn0 : 0 ≤ min room long := by omega
    have hn1 : min room long ≤ long := by omega
    generalize min room long = n at *
    have hw8 : IntKind.i64.wrap (long - n) = long - n := IntWalk.i64_in _ (by omega)
    by_cases hz : long - n ≤ 0
    · have hR := HR1.out
      rw [if_pos hz] at hR
      have HR := Lib.hid hR
      clear hR HR1
      obtain ⟨v, hv, ho⟩ := HW2.out.out
      have Ho := Lib.hid ho
      clear ho hw8
      go_wp2
      go_ret2
      rw [← HR.out]; exact ⟨HB2.out, fun h => absurd rfl h, fun _ => ⟨_, rfl, Ho.out⟩⟩
    · have hR := HR1.out
      rw [if_neg hz] at hR
      have HR2 := Lib.hid hR
      clear hR HR1
      by_cases h64 : long - n ≤ 64
      · have hR := HR2.out
        rw [if_pos h64] at hR
        have HR3 := Lib.hid hR
        clear hR HR2
        cases hp : pageOk second with
        | false =>
          have HA := Lib.hid (walker_whole_shape w.heap.size second w2 s0 s1 hp)
          unfold shapeErr at HA
          have hR := HR3.out
          rw [hp, if_pos rfl] at hR
          have HR := Lib.hid hR
          clear hp hw8 hR HR3
          go_wp2_with fail
          refine HA.out.mono ?_
          rintro e w' ⟨rfl, rfl⟩
          clear HA
          go_wp2
          go_ret2
          rw [← HR.out]
          exact WalkEnd.bad 2 (by omega) HB2.out
        | true =>
          have hR := HR3.out
          rw [hp, if_neg (by simp)] at hR
          have HR4 := Lib.hid hR
          clear HR3 hR
          have hmin : min 64 (long - n) = long - n := by omega
          cases hf : memFits bs.length second (long - n) with
          | false =>
            have HA := Lib.hid (walker_whole_bad w.heap.size b mb bs second (long - n) _ w2 HM2.out HW2.out s0 s1 hp (by omega) (by omega) (by rw [hmin]; exact hf))
            unfold memRangeErr at HA
            have hR := HR4.out
            rw [hf, if_neg (by simp)] at hR
            have HR := Lib.hid hR
            clear hp hw8 hmin hf hR HR4
            go_wp2_with fail
            refine HA.out.mono ?_
            rintro e w' ⟨rfl, rfl⟩
            clear HA
            go_wp2
            go_ret2
            rw [← HR.out]; exact WalkEnd.bad 1 (by omega) HB2.out
          | true =>
            have hA := walker_whole_ok w.heap.size b mb bs second (long - n) _ w2 HM2.out HW2.out hbb hmb (by simp) s0 s1 hp (by omega) (by omega) (by rw [hmin]; exact hf)
            rw [hmin] at hA
            have HA := Lib.hid hA
            have hR := HR4.out
            rw [hf, if_pos rfl] at hR
            have HR := Lib.hid hR
            clear hp hw8 hmin hf hA hR HR4
            go_wp2_with fail
            refine HA.out.mono ?_
            rintro e w3 ⟨rfl, hw3, hbel3⟩
            obtain ⟨v, hv, ho⟩ := hw3.out
            have Ho := Lib.hid ho
            have HB3 := Lib.hid (HB2.out.trans hbel3)
            clear ho hw3 hbel3 HA hc1
            go_wp2
            go_ret2
            rw [← HR.out]; exact ⟨HB3.out, fun h => absurd rfl h, fun _ => ⟨_, rfl, Ho.out⟩⟩
      · have hR := HR2.out
        rw [if_neg h64] at hR
        by_cases hal : second < 0 ∨ second % 8 ≠ 0
        · rw [if_pos hal] at hR
          have HR := Lib.hid hR
          have HA := Lib.hid (walker_list_shape w.heap.size second w2 s0 s1 hal)
          clear hR HR2 hal hw8
          unfold shapeErr at HA
          go_wp2_with fail
          refine HA.out.mono ?_
          rintro e w' ⟨rfl, rfl⟩
          clear HA
          go_wp2
          go_ret2
          rw [← HR.out]
          exact WalkEnd.bad 2 (by omega) HB2.out
        · rw [if_neg hal] at hR
          have HA := Lib.hid (walker_list_in w.heap.size b mb bs second (long - n) _ w2 HM2.out HW2.out hbb hmb (by simp) s1 (by omega) (by omega) (by omega) (by omega))
          rw [hR] at HA
          clear hR HR2 hw8 hal
          obtain ⟨k, segs⟩ := R
          go_wp2_with fail
          refine HA.out.mono ?_
          rintro e w3 ⟨rfl, hw3, hbel3⟩
          simp only [] at hw3
          have HB3 := Lib.hid (HB2.out.trans hbel3)
          by_cases hk : k = 0
          · subst hk
            obtain ⟨v, hv, ho⟩ := (hw3 rfl).out
            have Ho := Lib.hid ho
            rw [show errOf (0, segs).1 = .nilIface from rfl]
            clear ho hw3 hbel3 HA hc1
            go_wp2
            go_ret2
            exact ⟨HB3.out, fun h => absurd rfl h, fun _ => ⟨_, rfl, Ho.out⟩⟩
          · rw [show errOf (k, segs).1 = .iface 29 (.int .i64 k) from if_neg hk]
            have HK := Lib.hid hk
            clear hw3 hbel3 HA hc1 hk
            go_wp2
            go_ret2
            exact ⟨HB3.out, fun _ => rfl, fun h => absurd h HK.out⟩
end Go.Proofs.YtnapgigemdmigaaDoor
