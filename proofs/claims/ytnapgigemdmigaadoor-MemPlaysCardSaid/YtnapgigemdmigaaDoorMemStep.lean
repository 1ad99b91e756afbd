/- granarylaw3.memStep: one call on a memory and on the document's bytes. -/
import Derived.Test.YtnapgigemdmigaaDoorMemRef
import Derived.Test.YtnapgigemdmigaaDoorMemN
import Derived.Test.YtnapgigemdmigaaDoorMemW
import Derived.Test.YtnapgigemdmigaaDoorBytes
import Derived.Test.YtnapgigemdmigaaDoorTold
namespace Go.Proofs.YtnapgigemdmigaaDoor
open Go.RowKit
set_option linter.unusedVariables false

structure MemBoth (w : World) (b mb rb : Nat) (bs : List Int) : Prop where
  mem : MemAt w b mb bs
  ref : Blk w rb (bs.map (Value.int .u8)).toArray 5
  a1 : rb ≠ b
  a2 : rb ≠ mb
theorem MemBoth.below {w w' : World} {b mb rb : Nat} {bs : List Int} (h : MemBoth w b mb rb bs) (hb : Below w.heap.size w w') : MemBoth w' b mb rb bs :=
  ⟨h.mem.below hb, (by have := h.ref; unfold Blk at *; rw [hb.block _ h.ref.lt]; exact this), h.a1, h.a2⟩
theorem MemBoth.cells {w : World} {b mb rb : Nat} {bs : List Int} (h : MemBoth w b mb rb bs) : ∀ i, i < bs.length → w.cell? ⟨rb, i, none⟩ = some (.int .u8 (bs.getD i 0)) := fun i hi => by
  rw [h.ref.cell i]
  simp [List.getD, List.getElem?_eq_getElem hi]
def opV (k at_ n : Int) (da : Option Addr) (dn dc : Nat) : Value := .agg #[.int .i64 k, .int .i64 at_, .int .i64 n, .slice da dn dc]

set_option maxRecDepth 100000 in
set_option maxHeartbeats 4000000 in
theorem mem_step3 (b mb rb : Nat) (bs : List Int) (at_ n : Int) (da : Option Addr) (dn dc : Nat) (w : World) (hg : Laid w) (h : MemBoth w b mb rb bs) (x0 : -9223372036854775808 ≤ at_) (x1 : at_ ≤ 9223372036854775807) :
    Calls Tryd.prog 11 #[.pointer (some ⟨b, 0, none⟩), .slice (some ⟨rb, 0, none⟩) bs.length bs.length, opV 3 at_ n da dn dc] w fun e w' => e = .returned (.bool true) ∧ Below w.heap.size w w' := by
  have HM := Lib.hid h
  have hm := h.mem.most
  have HG := Lib.hid hg
  have hpos := hg.pos
  clear h hg
  unfold opV
  go_enter Tryd.func11, Tryd.ntmps11
  go_wp2_with fail
  have hb1 : Below w.heap.size w (w.alloc (.cells #[.int .i64 3, .int .i64 at_, .int .i64 n, .slice da dn dc] 33)) := (Below.refl _ _).alloc (Nat.le_refl _) _
  have q1 := (Blk.new w #[.int .i64 3, .int .i64 at_, .int .i64 n, .slice da dn dc] 33).cell 1
  have HB1 := Lib.hid hb1
  have HM1 := Lib.hid (HM.out.below hb1)
  simp only [List.getElem?_toArray, List.getElem?_cons_zero, List.getElem?_cons_succ] at q1
  clear hb1
  generalize w.alloc _ = w1 at *
  by_cases hx : at_ < 0 ∨ (bs.length : Int) - 8 < at_
  · have HX := Lib.hid hx
    clear hx
    have HR := Lib.hid (ref_readNumber_bad (some ⟨rb, 0, none⟩) bs.length bs.length at_ w1 hm x0 x1 (decide_eq_false (by have := HX.out; omega)))
    refine (mem_number_bad b mb bs at_ w1 HM1.out.mem x0 x1 HX.out).mono ?_
    rintro e w' ⟨rfl, rfl⟩
    unfold memRangeErr
    go_wp2_with fail
    refine HR.out.mono ?_
    rintro e w' ⟨rfl, rfl⟩
    have EH := Lib.hid (error_hit 1 1 w1 (HG.out.below hpos HB1.out))
    unfold errV at EH
    go_wp2_with fail
    refine EH.out.mono ?_
    rintro e w2 ⟨rfl, hw⟩
    have HE := Lib.hid (HB1.out.trans (hw.mono HB1.out.size))
    clear hw EH HR q1
    go_wp2
    go_ret
    exact ⟨rfl, HE.out⟩
  · obtain ⟨p, rfl⟩ := Int.eq_ofNat_of_zero_le (show 0 ≤ at_ by omega)
    have hp : p + 8 ≤ bs.length := by omega
    clear hx
    have HR := Lib.hid (ref_readNumber_ok rb p bs.length bs w1 hm (Nat.le_refl _) hp HM1.out.mem.byte HM1.out.cells)
    have HN := Lib.hid (mem_number_core b mb bs p w1 HM1.out.mem hp _ rfl)
    unfold NumRes memRangeErr at HN
    by_cases hok : leNum ((bs.drop p).take 8) ≤ 4611686018427387904
    · rw [if_pos hok] at HN
      rw [show numOk ((bs.drop p).take 8) = true from decide_eq_true hok, if_pos rfl] at HR
      clear hok
      generalize leNum ((bs.drop p).take 8) = v at *
      generalize bs.length = L at *
      refine HN.out.mono ?_
      rintro e w' ⟨rfl, rfl⟩
      go_wp2_with fail
      refine HR.out.mono ?_
      rintro e w' ⟨rfl, rfl⟩
      go_wp2_with fail
      refine (error_nil 0 w1).mono ?_
      rintro e w' ⟨rfl, rfl⟩
      clear HR HN q1
      go_wp2
      go_ret
      exact ⟨rfl, HB1.out⟩
    · rw [if_neg hok] at HN
      rw [show numOk ((bs.drop p).take 8) = false from decide_eq_false hok, if_neg (by simp)] at HR
      clear hok
      generalize bs.length = L at *
      refine HN.out.mono ?_
      rintro e w' ⟨rfl, rfl⟩
      go_wp2_with fail
      refine HR.out.mono ?_
      rintro e w' ⟨rfl, rfl⟩
      have EH := Lib.hid (error_hit 1 1 w1 (HG.out.below hpos HB1.out))
      unfold errV at EH
      go_wp2_with fail
      refine EH.out.mono ?_
      rintro e w2 ⟨rfl, hw⟩
      have HE := Lib.hid (HB1.out.trans (hw.mono HB1.out.size))
      clear hw EH HR HN q1
      go_wp2
      go_ret
      exact ⟨rfl, HE.out⟩

set_option maxRecDepth 100000 in
set_option maxHeartbeats 4000000 in
theorem mem_stepS_bad (b mb rb : Nat) (bs : List Int) (k at_ n : Int) (da : Option Addr) (dn dc : Nat) (w : World) (hg : Laid w) (h : MemBoth w b mb rb bs) (x0 : -9223372036854775808 ≤ at_) (x1 : at_ ≤ 9223372036854775807) (n0 : -9223372036854775808 ≤ n) (n1 : n ≤ 9223372036854775807)
    (k1 : k ≠ 1) (k2 : k ≠ 2) (k3 : k ≠ 3) (hx : n < 0 ∨ 4611686018427387904 < n ∨ at_ < 0 ∨ (bs.length : Int) - 8 < at_) :
    Calls Tryd.prog 11 #[.pointer (some ⟨b, 0, none⟩), .slice (some ⟨rb, 0, none⟩) bs.length bs.length, opV k at_ n da dn dc] w fun e w' => e = .returned (.bool true) ∧ Below w.heap.size w w' := by
  have HM := Lib.hid h
  have hm := h.mem.most
  have HG := Lib.hid hg
  have hpos := hg.pos
  have HX := Lib.hid hx
  have d1 : (k == 1) = false := by simpa using k1
  have d2 : (k == 2) = false := by simpa using k2
  have d3 : (k == 3) = false := by simpa using k3
  clear h hg hx k1 k2 k3
  unfold opV
  go_enter Tryd.func11, Tryd.ntmps11
  go_wp2_with fail
  have hb1 : Below w.heap.size w (w.alloc (.cells #[.int .i64 k, .int .i64 at_, .int .i64 n, .slice da dn dc] 33)) := (Below.refl _ _).alloc (Nat.le_refl _) _
  have q1 := (Blk.new w #[.int .i64 k, .int .i64 at_, .int .i64 n, .slice da dn dc] 33).cell 1
  have q2 := (Blk.new w #[.int .i64 k, .int .i64 at_, .int .i64 n, .slice da dn dc] 33).cell 2
  have HB1 := Lib.hid hb1
  have HM1 := Lib.hid (HM.out.below hb1)
  simp only [List.getElem?_toArray, List.getElem?_cons_zero, List.getElem?_cons_succ] at q1 q2
  clear hb1
  generalize w.alloc _ = w1 at *
  refine (mem_set_bad b mb bs at_ n w1 HM1.out.mem x0 x1 n0 n1 HX.out).mono ?_
  rintro e w' ⟨rfl, rfl⟩
  unfold memRangeErr
  have HF := Lib.hid (ref_fits bs.length at_ 8 w1 hm x0 x1 (by omega) (by omega))
  have EH := Lib.hid (error_hit 1 1 w1 (HG.out.below hpos HB1.out))
  unfold errV at EH
  go_wp2_with fail
  refine HF.out.mono ?_
  rintro e w' ⟨rfl, rfl⟩
  cases hf : memFits bs.length at_ 8 with
  | false =>
    clear hf
    go_wp2_with fail
    refine EH.out.mono ?_
    rintro e w2 ⟨rfl, hw⟩
    have HE := Lib.hid (HB1.out.trans (hw.mono HB1.out.size))
    clear hw EH HF q1 q2
    go_wp2
    go_ret
    exact ⟨rfl, HE.out⟩
  | true =>
    have hin := of_decide_eq_true hf
    clear hf
    by_cases c1 : n < 0
    · go_wp2_with fail
      refine EH.out.mono ?_
      rintro e w2 ⟨rfl, hw⟩
      have HE := Lib.hid (HB1.out.trans (hw.mono HB1.out.size))
      clear hw EH HF q1 q2
      go_wp2
      go_ret
      exact ⟨rfl, HE.out⟩
    · have c2 : 4611686018427387904 < n := by have := HX.out; omega
      go_wp2_with fail
      refine EH.out.mono ?_
      rintro e w2 ⟨rfl, hw⟩
      have HE := Lib.hid (HB1.out.trans (hw.mono HB1.out.size))
      clear hw EH HF q1 q2
      go_wp2
      go_ret
      exact ⟨rfl, HE.out⟩
end Go.Proofs.YtnapgigemdmigaaDoor
