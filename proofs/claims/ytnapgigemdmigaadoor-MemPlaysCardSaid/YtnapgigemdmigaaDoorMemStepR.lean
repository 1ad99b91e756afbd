/- granarylaw3.memStep: Read. -/
import Derived.Test.YtnapgigemdmigaaDoorMemStep
import Derived.Test.YtnapgigemdmigaaDoorOwn
import Derived.Test.YtnapgigemdmigaaDoorEight
import Derived.BigRegion
namespace Go.Proofs.YtnapgigemdmigaaDoor
open Go.RowKit
set_option linter.unusedVariables false

set_option maxRecDepth 100000 in
set_option maxHeartbeats 4000000 in
theorem mem_step1_bad (b mb rb : Nat) (bs : List Int) (at_ n : Int) (da : Option Addr) (dn dc : Nat) (w : World) (hg : Laid w) (h : MemBoth w b mb rb bs) (x0 : -9223372036854775808 ≤ at_) (x1 : at_ ≤ 9223372036854775807) (n0 : -9223372036854775808 ≤ n) (n1 : n ≤ 9223372036854775807)
    (hx : at_ < 0 ∨ n < 0 ∨ (bs.length : Int) < n ∨ (bs.length : Int) - n < at_) :
    Calls Tryd.prog 11 #[.pointer (some ⟨b, 0, none⟩), .slice (some ⟨rb, 0, none⟩) bs.length bs.length, opV 1 at_ n da dn dc] w fun e w' => e = .returned (.bool true) ∧ Below w.heap.size w w' := by
  have HM := Lib.hid h
  have hm := h.mem.most
  have HG := Lib.hid hg
  have hpos := hg.pos
  have HX := Lib.hid hx
  clear h hg hx
  unfold opV
  go_enter Tryd.func11, Tryd.ntmps11
  go_wp2_with fail
  have hb1 : Below w.heap.size w (w.alloc (.cells #[.int .i64 1, .int .i64 at_, .int .i64 n, .slice da dn dc] 33)) := (Below.refl _ _).alloc (Nat.le_refl _) _
  have hbk := Blk.new w #[.int .i64 1, .int .i64 at_, .int .i64 n, .slice da dn dc] 33
  have q1 : (w.alloc (.cells #[.int .i64 1, .int .i64 at_, .int .i64 n, .slice da dn dc] 33)).cell? ⟨w.heap.size, 1, none⟩ = some (.int .i64 at_) := hbk.cell 1
  have q2 : (w.alloc (.cells #[.int .i64 1, .int .i64 at_, .int .i64 n, .slice da dn dc] 33)).cell? ⟨w.heap.size, 2, none⟩ = some (.int .i64 n) := hbk.cell 2
  have HB1 := Lib.hid hb1
  have HM1 := Lib.hid (HM.out.below hb1)
  clear hb1 hbk
  generalize w.alloc _ = w1 at *
  have HF := Lib.hid (ref_fits bs.length at_ n w1 hm x0 x1 n0 n1)
  rw [show memFits bs.length at_ n = false from decide_eq_false (by have := HX.out; omega)] at HF
  have EH := Lib.hid (error_hit 1 1 w1 (HG.out.below hpos HB1.out))
  unfold errV at EH
  refine (mem_read_bad b mb bs at_ n w1 HM1.out.mem x0 x1 n0 n1 HX.out).mono ?_
  rintro e w' ⟨rfl, rfl⟩
  unfold memRangeErr
  go_wp2_with fail
  refine HF.out.mono ?_
  rintro e w' ⟨rfl, rfl⟩
  go_wp2_with fail
  refine EH.out.mono ?_
  rintro e w2 ⟨rfl, hw⟩
  have HE := Lib.hid (HB1.out.trans (hw.mono HB1.out.size))
  clear hw EH HF q1 q2
  go_wp2
  go_ret
  exact ⟨rfl, HE.out⟩

theorem part_byte (bs : List Int) (h : ∀ x ∈ bs, 0 ≤ x ∧ x ≤ 255) (p n : Nat) : ∀ x ∈ (bs.drop p).take n, 0 ≤ x ∧ x ≤ 255 := fun x hx => h x (List.mem_of_mem_drop (List.mem_of_mem_take hx))

/-- bytes that are the caller's: whatever they hold -/
def AnyBytes (wr : World) (g n : Nat) : Prop := ∀ i, i < n → (∃ y, wr.cell? ⟨g, i, none⟩ = some (.int .u8 y)) ∧ wr.frozen? ⟨g, i, none⟩ = false
theorem AnyBytes.set {wr : World} {g n : Nat} (h : AnyBytes wr g n) (i : Nat) (y : Int) : AnyBytes (wr.setCell ⟨g, i, none⟩ (.int .u8 y)) g n := fun k hk => by
  obtain ⟨⟨z, hz⟩, hf⟩ := h k hk
  refine ⟨?_, by rw [World.frozen?_setCell]; exact hf⟩
  by_cases e : k = i
  · subst e
    exact ⟨y, by rw [World.cell?_setCell_same _ _ _ (by rw [hz])]⟩
  · exact ⟨z, by rw [World.cell?_setCell_other _ _ _ _ (by simp)]; exact hz⟩

theorem anyBytes_own {w : World} {base g n cap : Nat} {xs : List Value} (h : w.ownsRow base 5 1 (.slice (some ⟨g, 0, none⟩) n cap) n xs) (hx : ∀ v ∈ xs, ∃ y, v = .int .u8 y) : AnyBytes w g n := fun i hi => by
  have hl := h.1
  have e := h.cellAt i (by omega)
  refine ⟨?_, h.frozenAt i⟩
  obtain ⟨y, hy⟩ := hx _ (List.getElem_mem (show i < xs.length by omega))
  exact ⟨y, by rw [e, List.getElem?_eq_getElem (by omega), hy]⟩

set_option maxRecDepth 100000 in
set_option maxHeartbeats 4000000 in
theorem mem_step1_ok (b mb rb : Nat) (bs : List Int) (p n : Nat) (da : Option Addr) (dn dc : Nat) (w : World) (h : MemBoth w b mb rb bs) (hp : p + n ≤ bs.length) :
    Calls Tryd.prog 11 #[.pointer (some ⟨b, 0, none⟩), .slice (some ⟨rb, 0, none⟩) bs.length bs.length, opV 1 p n da dn dc] w fun e w' => e = .returned (.bool true) ∧ Below w.heap.size w w' := by
  have HM := Lib.hid h
  have hm := h.mem.most
  clear h
  unfold opV
  go_enter Tryd.func11, Tryd.ntmps11
  go_wp2_with fail
  have hb1 : Below w.heap.size w (w.alloc (.cells #[.int .i64 1, .int .i64 (p : Int), .int .i64 (n : Int), .slice da dn dc] 33)) := (Below.refl _ _).alloc (Nat.le_refl _) _
  have hbk := Blk.new w #[.int .i64 1, .int .i64 (p : Int), .int .i64 (n : Int), .slice da dn dc] 33
  have HB1 := Lib.hid hb1
  have HBK := Lib.hid hbk
  have HM1 := Lib.hid (HM.out.below hb1)
  clear hb1 hbk
  generalize w.alloc _ = w1 at *
  refine (mem_read_ok b mb bs p n w1 HM1.out.mem hp).mono ?_
  rintro e w2 ⟨g, cap, rfl, ho, hb2⟩
  have hg0 := (ho.lt g rfl).1
  have hg1 := (ho.lt g rfl).2
  have hs1 := HB1.out.size
  have hbk2 : Blk w2 w.heap.size _ 33 := (show w2.heap[w.heap.size]? = _ by rw [hb2.block _ HBK.out.lt]; exact HBK.out)
  have q1 : w2.cell? ⟨w.heap.size, 1, none⟩ = some (.int .i64 (p : Int)) := hbk2.cell 1
  have q2 : w2.cell? ⟨w.heap.size, 2, none⟩ = some (.int .i64 (n : Int)) := hbk2.cell 2
  have HF := Lib.hid (ref_fits bs.length p n w2 hm (by omega) (by omega) (by omega) (by omega))
  rw [show memFits bs.length p n = true from decide_eq_true (by omega)] at HF
  have hM2 := HM1.out.below hb2
  have hxl : ((bs.drop p).take n).length = n := by simp; omega
  have hrd1 : RdB w2 (some ⟨g, 0, none⟩) ((bs.drop p).take n) := RdB.own ho hxl
  have hany : AnyBytes w2 g n := anyBytes_own ho (fun v hv => by obtain ⟨x, _, rfl⟩ := List.mem_map.1 hv; exact ⟨x, rfl⟩)
  have hrd2 : ∀ off, (0 < n → off = p) → RdB w2 (some ⟨rb, off, none⟩) ((bs.drop p).take n) := fun off hoff => by
    by_cases h0 : n = 0
    · exact .inl (by rw [hxl]; exact h0)
    · rw [hoff (by omega)]
      refine .inr ⟨rb, p, rfl, fun i hi => ?_⟩
      rw [hxl] at hi
      have := hM2.cells (p + i) (by omega)
      rw [this]
      simp [List.getD, List.getElem?_drop, hi]
  have HRD1 := Lib.hid hrd1
  have HRD2 := Lib.hid hrd2
  have HAny := Lib.hid hany
  have HB2 := Lib.hid (HB1.out.trans (hb2.mono hs1))
  have hs2 := HB2.out.size
  clear ho hb2 hbk2 hM2 hrd1 hrd2 hany
  have hw : IntKind.i64.wrap ((p : Int) + n) = (p : Int) + n := IntWalk.i64_in _ (by omega)
  have HXL := Lib.hid hxl
  clear hxl
  generalize (bs.drop p).take n = xs at *
  generalize hL : bs.length = L at *
  have HL := Lib.hid hL
  clear hL
  have HBS := Lib.hid (fun off (ho : 0 < n → off = p) c c' => bytes_same (some ⟨g, 0, none⟩) (some ⟨rb, off, none⟩) c c' xs w2 HRD1.out (HRD2.out off ho) (by rw [HXL.out]; omega))
  rw [HXL.out] at HBS
  by_cases hpL : L = p
  · obtain rfl : n = 0 := by omega
    subst hpL
    have HBS0 := Lib.hid (HBS.out 0 (by omega))
    clear HBS
    go_wp2_with fail
    refine HF.out.mono ?_
    rintro e w' ⟨rfl, rfl⟩
    clear HF
    go_wp2_with fail
    refine (HBS0.out _ _).mono ?_
    rintro e w3 ⟨rfl, q, rfl⟩
    have HB3 := Lib.hid (below_drewN HB2.out q)
    clear HBS0 q1 q2 HAny HB2
    generalize w2.drewN q = w3 at *
    go_wp2_with fail
    go_loopw [11] (fun i wr => i = .int .i64 0 ∧ wr = w3) (fun i _ => 0)
    case atStart => exact ⟨rfl, rfl⟩
    case round =>
      obtain ⟨rfl, rfl⟩ := hrel
      go_wp2
      go_ret
      exact ⟨rfl, HB3.out⟩
  · have HBS0 := Lib.hid (HBS.out p (fun _ => rfl))
    clear HBS
    go_wp2_with fail
    refine HF.out.mono ?_
    rintro e w' ⟨rfl, rfl⟩
    clear HF
    go_wp2_with fail
    refine (HBS0.out _ _).mono ?_
    rintro e w3 ⟨rfl, q, rfl⟩
    have HA3 := Lib.hid (show AnyBytes (w2.drewN q) g n from HAny.out)
    have HB3 := Lib.hid (below_drewN HB2.out q)
    clear HBS0 q1 q2 HAny HB2
    generalize w2.drewN q = w3 at *
    go_wp2_with fail
    go_loopw [11] (fun i wr => ∃ j : Nat, j ≤ n ∧ i = .int .i64 j ∧ AnyBytes wr g n ∧ Below w.heap.size w wr) (fun i _ => n - (intOf i).toNat)
    case atStart => exact ⟨0, Nat.zero_le _, rfl, HA3.out, HB3.out⟩
    case round =>
      obtain ⟨j, hj, rfl, ha, hb⟩ := hrel
      by_cases hlt : j < n
      · obtain ⟨⟨y, hy⟩, hf⟩ := ha j hlt
        have HAny := Lib.hid ha
        have HBel := Lib.hid hb
        clear ha hb HA3 HB3
        go_wp2
        go_roundw
        case rel => exact ⟨j + 1, by omega, by go_num, HAny.out.set _ _, HBel.out.setCell (p := ⟨g, j, none⟩) (by show _ ≤ g; omega) _⟩
        case measure => simp [intOf]; omega
      · obtain rfl : j = n := by omega
        have HBel := Lib.hid hb
        clear ha hb HA3 HB3
        go_wp2
        go_ret
        exact ⟨rfl, HBel.out⟩
end Go.Proofs.YtnapgigemdmigaaDoor
