/- granarylaw3.MemPlays returns true, and writes nothing that was there. -/
import Derived.Test.YtnapgigemdmigaaDoorMemStepS
import Derived.Test.YtnapgigemdmigaaDoorMemStepR
import Derived.Test.YtnapgigemdmigaaDoorMemStepW
import Derived.Test.YtnapgigemdmigaaDoorMemOpsRd
import Derived.Deep.MidRow
namespace Go.Proofs.YtnapgigemdmigaaDoor
open Go.RowKit
set_option linter.unusedVariables false

theorem MemBoth.keepB {w w' : World} {b mb rb : Nat} {bs : List Int} {B : Nat} (h : Keep (fun q => q = mb ∨ q = rb) w w') (h1 : B ≤ mb) (h2 : B ≤ rb) (hB : B ≤ w.heap.size) : Below B w w' :=
  h.below B hB (fun k hk => by omega)

/-- any call: both go on alike -/
def StepEnd (w : World) (b mb rb n : Nat) (e : Ending) (w' : World) : Prop :=
  e = .returned (.bool true) ∧ ∃ bs', bs'.length = n ∧ MemBoth w' b mb rb bs' ∧ Keep (fun q => q = mb ∨ q = rb) w w'

theorem mem_step_any (b mb rb : Nat) (bs : List Int) (k at_ n : Int) (da : Option Addr) (dc : Nat) (ys : List Int) (w : World) (hg : Laid w) (h : MemBoth w b mb rb bs) (x0 : -9223372036854775808 ≤ at_) (x1 : at_ ≤ 9223372036854775807) (n0 : -9223372036854775808 ≤ n) (n1 : n ≤ 9223372036854775807)
    (hnone : da = none → ys.length = 0 ∧ dc = 0) (hy : RdB w da ys) (hyb : ∀ x ∈ ys, 0 ≤ x ∧ x ≤ 255) (hlen : ys.length ≤ 140737488351232) :
    Calls Tryd.prog 11 #[.pointer (some ⟨b, 0, none⟩), .slice (some ⟨rb, 0, none⟩) bs.length bs.length, opV k at_ n da ys.length dc] w (StepEnd w b mb rb bs.length) := by
  have stay : ∀ {e : Ending} {w' : World}, e = .returned (.bool true) ∧ Below w.heap.size w w' → StepEnd w b mb rb bs.length e w' := fun hh =>
    ⟨hh.1, bs, rfl, h.below hh.2, Keep.ofBelow hh.2 (fun q h1 h2 => absurd h1 (by omega))⟩
  by_cases k1 : k = 1
  · subst k1
    by_cases hx : at_ < 0 ∨ n < 0 ∨ (bs.length : Int) < n ∨ (bs.length : Int) - n < at_
    · exact (mem_step1_bad b mb rb bs at_ n da ys.length dc w hg h x0 x1 n0 n1 hx).mono fun e w' hh => stay hh
    · obtain ⟨p, rfl⟩ := Int.eq_ofNat_of_zero_le (show 0 ≤ at_ by omega)
      obtain ⟨n, rfl⟩ := Int.eq_ofNat_of_zero_le (show 0 ≤ n by omega)
      exact (mem_step1_ok b mb rb bs p n da ys.length dc w h (by omega)).mono fun e w' hh => stay hh
  by_cases k2 : k = 2
  · subst k2
    by_cases hx : at_ < 0 ∨ (bs.length : Int) < ys.length ∨ (bs.length : Int) - ys.length < at_
    · exact (mem_step2_bad b mb rb bs at_ n da dc ys w hg h x0 x1 hnone hy hlen hx).mono fun e w' hh => stay hh
    · obtain ⟨p, rfl⟩ := Int.eq_ofNat_of_zero_le (show 0 ≤ at_ by omega)
      exact (mem_step2_ok b mb rb bs p n da dc ys w h hnone hy hyb (by omega)).mono fun e w' hh => ⟨hh.1, _, length_splice _ _ _ (by omega), hh.2.1, hh.2.2⟩
  by_cases k3 : k = 3
  · subst k3
    exact (mem_step3 b mb rb bs at_ n da ys.length dc w hg h x0 x1).mono fun e w' hh => stay hh
  by_cases hx : n < 0 ∨ 4611686018427387904 < n ∨ at_ < 0 ∨ (bs.length : Int) - 8 < at_
  · exact (mem_stepS_bad b mb rb bs k at_ n da ys.length dc w hg h x0 x1 n0 n1 k1 k2 k3 hx).mono fun e w' hh => stay hh
  · obtain ⟨p, rfl⟩ := Int.eq_ofNat_of_zero_le (show 0 ≤ at_ by omega)
    exact (mem_stepS_ok b mb rb bs k p n da ys.length dc w h (by omega) (by omega) (by omega) k1 k2 k3).mono fun e w' hh => ⟨hh.1, _, length_splice _ _ _ (by rw [leDig_length]; omega), hh.2.1, hh.2.2⟩

theorem mem_size (b mb : Nat) (L : Nat) (w : World) (c0 : w.cell? ⟨b, 0, none⟩ = some (.slice (some ⟨mb, 0, none⟩) L L)) :
    Calls Tryd.prog 13 #[.pointer (some ⟨b, 0, none⟩)] w fun e w' => e = .returned (.int .i64 L) ∧ w = w' := by
  go_enter Tryd.func13, Tryd.ntmps13
  go_wp2
  go_ret
  exact ⟨rfl, rfl⟩

set_option maxRecDepth 100000 in
set_option maxHeartbeats 8000000 in
theorem memPlays_walk (w : World) (hg : Laid w) (n : Int) (hn0 : -9223372036854775808 ≤ n) (hn1 : n ≤ 9223372036854775807) (a : Option Addr) (len cap : Nat) (z : Nat → Nat → Int) (A : Nat → Option Addr) (L C : Nat → Nat) (Z : Nat → List Int) (hz : IsMemOps w a len z A L C Z) :
    Calls Tryd.prog 3 #[.int .i64 n, .slice a len cap] w fun e w' => e = .returned (.bool true) ∧ Below w.heap.size w w' := by
  have hlen : len * 48 ≤ 140737488351232 := by
    rcases hz with h | ⟨_, _, _, h, _⟩ <;> omega
  have HZ := Lib.hid hz
  have HG := Lib.hid hg
  have hpos := hg.pos
  clear hz hg
  by_cases hbad : n < 0 ∨ 16384 < n
  · have Hb := Lib.hid hbad
    clear hbad
    have E := Lib.hid (error_hit 1 1 w HG.out)
    unfold errV at E
    go_enter Tryd.func3, Tryd.ntmps3
    go_wp2_with fail
    refine (mem_new_bad _ _ Hb.out).mono ?_
    rintro e w' ⟨rfl, rfl⟩
    unfold memRangeErr
    by_cases c1 : n < 0
    · go_wp2_with fail
      refine E.out.mono ?_
      rintro e w' ⟨rfl, hB⟩
      have HBB := Lib.hid hB
      clear hB
      go_wp2
      go_ret
      exact ⟨rfl, HBB.out⟩
    · have c2 : 16384 < n := by have := Hb.out; omega
      go_wp2_with fail
      refine E.out.mono ?_
      rintro e w' ⟨rfl, hB⟩
      have HBB := Lib.hid hB
      clear hB
      go_wp2
      go_ret
      exact ⟨rfl, HBB.out⟩
  · obtain ⟨n, rfl⟩ := Int.eq_ofNat_of_zero_le (show 0 ≤ n by omega)
    have hn : n ≤ 16384 := by omega
    have hmk := fun (w : World) => run_make_row' (P := Tryd.prog) 30 5 (.int .u8 0) 1 Tryd.underlying30 (by kernel_rfl) rfl .i64 .i64 n (by omega) (by omega) w
    clear hbad hn0 hn1
    go_enter Tryd.func3, Tryd.ntmps3
    go_wp2_with fail
    refine (mem_new_ok n _ hn).mono ?_
    rintro e w1 ⟨rfl, hm1, hb1⟩
    have hs1 := hb1.size
    have hl1 := hm1.head.lt
    have hboth : MemBoth (w1.alloc (.cells (madeCells #[.int .u8 0] n) 5)) (w.heap.size + 1) w.heap.size w1.heap.size (List.replicate n 0) :=
      ⟨hm1.below ((Below.refl _ _).alloc (Nat.le_refl _) _), (Blk.new w1 (madeCells #[.int .u8 0] n) 5).of (madeCells_u8 n), by omega, by omega⟩
    have hb2 : Below w.heap.size w (w1.alloc (.cells (madeCells #[.int .u8 0] n) 5)) := hb1.alloc hs1 _
    have HBoth := Lib.hid hboth
    have HB2 := Lib.hid hb2
    clear hboth hb2 hm1 hb1
    go_wp2_with fail
    clear hmk
    generalize w1.alloc _ = w2 at *
    generalize w1.heap.size = rb at *
    go_loopw [8] (fun i wr => ∃ (j : Nat) (bs : List Int), j ≤ len ∧ i = .int .i64 j ∧ bs.length = n ∧ MemBoth wr (w.heap.size + 1) w.heap.size rb bs ∧ Below w.heap.size w wr) (fun i _ => len - (intOf i).toNat)
    case atStart => exact ⟨0, List.replicate n 0, Nat.zero_le _, rfl, by simp, HBoth.out, HB2.out⟩
    case round =>
      obtain ⟨j, bs, hj, rfl, rfl, hbo, hbe⟩ := hrel
      have HBo := Lib.hid hbo
      have HBe := Lib.hid hbe
      have hsz := hbe.size
      clear hbo hbe HBoth HB2
      by_cases hlt : j < len
      · obtain ⟨b, off, rfl, _, hbW, hcell⟩ := HZ.out.resolve_left (by omega)
        obtain ⟨hq, hq3, hrow⟩ := hcell j hlt
        have hr : wr.rangeAt b (off + j * 4) [Value.int .i64 (z j 0), Value.int .i64 (z j 1), Value.int .i64 (z j 2), Value.slice (A j) (L j) (C j)] := by
          intro i v hi
          match i, hi with
          | 0, hi => simp at hi; subst hi; exact (HBe.out.cell (p := ⟨b, off + j * 4 + 0, none⟩) hbW).trans (hq 0 (by omega)).1
          | 1, hi => simp at hi; subst hi; exact (HBe.out.cell (p := ⟨b, off + j * 4 + 1, none⟩) hbW).trans (hq 1 (by omega)).1
          | 2, hi => simp at hi; subst hi; exact (HBe.out.cell (p := ⟨b, off + j * 4 + 2, none⟩) hbW).trans (hq 2 (by omega)).1
          | 3, hi => simp at hi; subst hi; exact (HBe.out.cell (p := ⟨b, off + j * 4 + 3, none⟩) hbW).trans hq3
        have hk1 := bounds_i64 (hq 1 (by omega)).2
        have hk2 := bounds_i64 (hq 2 (by omega)).2
        obtain ⟨ys, hyl, hyn, hyb, hyr⟩ := hrow.bytes
        have hnone : A j = none → ys.length = 0 ∧ C j = 0 := fun e => by
          rcases hrow with ⟨_, h1, h2, _⟩ | ⟨x, h1, _⟩
          · exact ⟨by omega, h2⟩
          · rw [e] at h1; cases h1
        have HStep := Lib.hid (mem_step_any (w.heap.size + 1) w.heap.size rb bs (z j 0) (z j 1) (z j 2) (A j) (C j) ys wr (HG.out.below hpos HBe.out) HBo.out hk1.1 hk1.2 hk2.1 hk2.2 hnone (hyr wr HBe.out) hyb (by omega))
        unfold opV at HStep
        rw [hyl] at HStep
        have HR := Lib.hid hr
        have hrb : w.heap.size ≤ rb := by have := HBo.out; exact Nat.le_of_lt (by omega)
        clear hr hcell hq hq3 hrow hk1 hk2 hyl hyn hyb hyr hnone HZ
        go_wp2_with (with_reducible refine wpList_load_mid rfl 33 (.tmp 44) rfl b (off + j * 4) rfl [Value.int .i64 (z j 0), Value.int .i64 (z j 1), Value.int .i64 (z j 2), Value.slice (A j) (L j) (C j)] _ HR.out Tryd.underlying33 rfl (by kernel_rfl) ?_)
        refine HStep.out.mono ?_
        rintro e w3 ⟨rfl, bs', hbl, hbo3, hkeep⟩
        have HBo3 := Lib.hid hbo3
        have HBe3 := Lib.hid (HBe.out.trans (hkeep.below w.heap.size hsz (fun k hk => by omega)))
        clear hbo3 hkeep HStep HR HBo HBe
        have hbl' := Lib.hid hbl
        clear hbl
        go_wp2
        go_roundw
        case rel => exact ⟨j + 1, bs', by omega, by go_num, hbl'.out, HBo3.out, HBe3.out⟩
        case measure => simp [intOf]; omega
      · clear HZ
        have HRead := Lib.hid (mem_read_ok (w.heap.size + 1) w.heap.size bs 0 bs.length wr HBo.out.mem (by omega))
        go_wp2_with fail
        refine HRead.out.mono ?_
        rintro e w3 ⟨g, cap3, rfl, ho, hb3⟩
        rw [List.drop_zero, List.take_of_length_le (Nat.le_refl _)] at ho
        have HBo3 := Lib.hid (HBo.out.below hb3)
        have HO3 := Lib.hid ho
        have HB3 := Lib.hid (HBe.out.trans (hb3.mono hsz))
        have HSize := Lib.hid (mem_size (w.heap.size + 1) w.heap.size bs.length w3 HBo3.out.mem.c0)
        have HSame := Lib.hid (fun c c' => bytes_same (some ⟨g, 0, none⟩) (some ⟨rb, 0, none⟩) c c' bs w3 (RdB.own HO3.out rfl) (.inr ⟨rb, 0, rfl, fun i hi => by rw [Nat.zero_add]; exact HBo3.out.cells i hi⟩) (by omega))
        clear ho hb3 HRead HBo HBe
        go_wp2_with fail
        refine HSize.out.mono ?_
        rintro e w' ⟨rfl, rfl⟩
        clear HSize
        go_wp2_with fail
        refine (HSame.out _ _).mono ?_
        rintro e w4 ⟨rfl, q, rfl⟩
        clear HSame
        go_wp2
        go_ret
        exact ⟨rfl, below_drewN HB3.out q⟩
end Go.Proofs.YtnapgigemdmigaaDoor
