/- granarylaw3.CmdWrites returns true, and writes nothing that was there (printed by gencw.py). -/
import Derived.Test.YtkehhfgoikbciaaDoorDoneOf
import Derived.Test.YtkehhfgoikbciaaDoorBytes
import Derived.Test.YtkehhfgoikbciaaDoorCmdLaw
import Derived.Test.YtkehhfgoikbciaaDoorDoneLaw
namespace Go.Proofs.YtkehhfgoikbciaaDoor
open Go.RowKit Go.WideShapes
set_option linter.unusedVariables false

/-- the two boxes, and what was there -/
structure CW (w : World) (cb : Nat) (C D : Array Value) (w' : World) : Prop where
  c : Blk w' w.heap.size C 63
  d : Blk w' cb D 65
  bel : Below w.heap.size w w'
theorem CW.call {w : World} {cb : Nat} {C D : Array Value} {w1 w2 : World} (h : CW w cb C D w1) (hb : Below w1.heap.size w1 w2) : CW w cb C D w2 :=
  ⟨by have := h.c; unfold Blk at *; rw [hb.block _ h.c.lt]; exact this, by have := h.d; unfold Blk at *; rw [hb.block _ h.d.lt]; exact this, h.bel.trans (hb.mono h.bel.size)⟩
theorem CW.drewN {w : World} {cb : Nat} {C D : Array Value} {w1 : World} (h : CW w cb C D w1) (q : Nat) : CW w cb C D (w1.drewN q) :=
  ⟨h.c, h.d, ⟨h.bel.os, h.bel.tape, h.bel.output, h.bel.size, h.bel.block⟩⟩
theorem rdB_blk {w : World} {g : Nat} {bs : List Int} {t : TypeId} (h : Blk w g (bs.map (Value.int .u8)).toArray t) : RdB w (some ⟨g, 0, none⟩) bs :=
  .inr ⟨g, 0, rfl, fun i hi => by
    rw [Nat.zero_add, h.cell i]
    simp [List.getD, List.getElem?_eq_getElem hi]⟩
theorem blk_below {w w' : World} {g : Nat} {c : Array Value} {t : TypeId} (h : Blk w g c t) (hb : Below w.heap.size w w') : Blk w' g c t := by
  unfold Blk at *; rw [hb.block _ (Array.getElem?_eq_some_iff.1 h).1]; exact h

set_option maxRecDepth 100000 in
set_option maxHeartbeats 16000000 in
theorem cmdWrites_walk (w : World) (hg : Laid w) (x0 x1 x2 x3 x4 x5 : Int) (b0 : I64 x0) (b1 : I64 x1) (b2 : I64 x2) (b3 : I64 x3) (b4 : I64 x4) (b5 : I64 x5)
    (y0 y1 y2 y3 : Int) (ph : Bool) (c0 : IW y0) (c1 : IW y1) (c2 : IW y2) (c3 : IW y3) :
    Calls Tryd.prog 8 #[cmdV x0 x1 x2 x3 x4 x5, doneV y0 y1 y2 y3 ph] w fun e w' => e = .returned (.bool true) ∧ Below w.heap.size w w' := by
  have HE := Lib.hid (fun w' => cmd_encode x0 x1 x2 x3 x4 x5 w' b0 b1 b2 b3 b4 b5)
  have HD := Lib.hid (fun w' => cmd_encodeDone y0 y1 y2 y3 ph w' c0 c1 c2 c3)
  have HF := Lib.hid (fun w' => command_fault x0 x1 x2 x3 x4 x5 w' b0 b1 b2 b3 b4 b5)
  have HFD := Lib.hid (fun w' => done_fault y0 y1 y2 y3 ph w' c0 c1 c2 c3)
  have HO := Lib.hid (fun w' h => command_of x0 x1 x2 x3 x4 x5 w' h)
  have HOD := Lib.hid (fun w' h => done_of_ref y0 y1 y2 y3 ph w' h)
  have HG := Lib.hid hg
  have hpos := hg.pos
  clear b0 b1 b2 b3 b4 b5 c0 c1 c2 c3 hg
  unfold cmdV at HE HF HO ⊢
  unfold doneV at HD HFD HOD ⊢
  go_enter Tryd.func8, Tryd.ntmps8
  go_wp2_with fail
  have hS : CW w (w.heap.size + 1) #[.int .i64 x0, .int .i64 x1, .int .i64 x2, .int .i64 x3, .int .i64 x4, .int .i64 x5] #[.int .i64 y0, .int .i64 y1, .int .i64 y2, .int .i64 y3, .bool ph]
      ((w.alloc (.cells #[.int .i64 x0, .int .i64 x1, .int .i64 x2, .int .i64 x3, .int .i64 x4, .int .i64 x5] 63)).alloc (.cells #[.int .i64 y0, .int .i64 y1, .int .i64 y2, .int .i64 y3, .bool ph] 65)) :=
    ⟨(Blk.new _ _ _).alloc _, by
      have := Blk.new (w.alloc (.cells #[.int .i64 x0, .int .i64 x1, .int .i64 x2, .int .i64 x3, .int .i64 x4, .int .i64 x5] 63)) #[.int .i64 y0, .int .i64 y1, .int .i64 y2, .int .i64 y3, .bool ph] 65
      simpa using this, ((Below.refl _ _).alloc (Nat.le_refl _) _).alloc (by simp) _⟩
  have HS := Lib.hid hS
  clear hS
  obtain ⟨cb, hcb⟩ : ∃ cb, cb = w.heap.size + 1 := ⟨_, rfl⟩
  have hcbl : w.heap.size < cb := by omega
  rw [← hcb] at HS ⊢
  clear hcb
  generalize (w.alloc _).alloc _ = wa0 at *
  refine (HE.out wa0).mono ?_
  rintro e wb1 ⟨hw, h⟩
  have HT := Lib.hid (HS.out.call hw)
  clear hw HS
  rcases h with ⟨hfit, g, hgl, rfl, hb⟩ | ⟨hno, rfl⟩
  · have HB := Lib.hid hb
    have hff := cmdFits_iff .. |>.2 hfit
    have HFF := Lib.hid hff
    clear hb hfit hff hgl
    have q0 : wb1.cell? ⟨w.heap.size, 0, none⟩ = some (.int .i64 x0) := HT.out.c.cell 0
    have q1 : wb1.cell? ⟨w.heap.size, 1, none⟩ = some (.int .i64 x1) := HT.out.c.cell 1
    have q2 : wb1.cell? ⟨w.heap.size, 2, none⟩ = some (.int .i64 x2) := HT.out.c.cell 2
    have q3 : wb1.cell? ⟨w.heap.size, 3, none⟩ = some (.int .i64 x3) := HT.out.c.cell 3
    have q4 : wb1.cell? ⟨w.heap.size, 4, none⟩ = some (.int .i64 x4) := HT.out.c.cell 4
    have q5 : wb1.cell? ⟨w.heap.size, 5, none⟩ = some (.int .i64 x5) := HT.out.c.cell 5
    go_wp2_with fail
    clear q0 q1 q2 q3 q4 q5
    refine (HF.out wb1).mono ?_
    rintro e wc1 ⟨hcase, hw⟩
    have HU := Lib.hid (HT.out.call hw)
    have HB2 := Lib.hid (blk_below HB.out hw)
    clear hw HT HB
    rcases hcase with ⟨_, rfl⟩ | ⟨hbad, _⟩
    case inr => exact absurd HFF.out hbad
    go_wp2_with fail
    refine (error_nil 0 wc1).mono ?_
    rintro e w' ⟨rfl, rfl⟩
    have q0 : wc1.cell? ⟨w.heap.size, 0, none⟩ = some (.int .i64 x0) := HU.out.c.cell 0
    have q1 : wc1.cell? ⟨w.heap.size, 1, none⟩ = some (.int .i64 x1) := HU.out.c.cell 1
    have q2 : wc1.cell? ⟨w.heap.size, 2, none⟩ = some (.int .i64 x2) := HU.out.c.cell 2
    have q3 : wc1.cell? ⟨w.heap.size, 3, none⟩ = some (.int .i64 x3) := HU.out.c.cell 3
    have q4 : wc1.cell? ⟨w.heap.size, 4, none⟩ = some (.int .i64 x4) := HU.out.c.cell 4
    have q5 : wc1.cell? ⟨w.heap.size, 5, none⟩ = some (.int .i64 x5) := HU.out.c.cell 5
    go_wp2_with fail
    clear q0 q1 q2 q3 q4 q5
    refine (HO.out wc1 HFF.out).mono ?_
    rintro e wd1 ⟨v, rfl, hown, hw⟩
    have HV := Lib.hid (HU.out.call hw)
    have HB3 := Lib.hid (blk_below HB2.out hw)
    obtain ⟨g2, cap2, rfl, _⟩ := own_form hown (by omega)
    have hl : (cmdRef x0 x1 x2 x3 x4 x5).length = 64 := by rw [cmdRef_bytes _ _ _ _ _ _ HFF.out]; exact cmd_len _ 6 (by omega)
    have HR := Lib.hid (RdB.own hown hl)
    have HQ := Lib.hid (show Calls Tryd.prog 39 #[.slice (some ⟨g, 0, none⟩) 64 64, .slice (some ⟨g2, 0, none⟩) 64 cap2] wd1 _ from by
      have h1 := rdB_blk HB3.out
      rw [← cmdRef_bytes _ _ _ _ _ _ HFF.out] at h1
      have := bytes_same (some ⟨g, 0, none⟩) (some ⟨g2, 0, none⟩) 64 cap2 _ wd1 h1 HR.out (by omega)
      rw [hl] at this
      exact this)
    clear hw hown HU HB2 hl
    go_wp2_with fail
    refine HQ.out.mono ?_
    rintro e w' ⟨rfl, q, rfl⟩
    have HS := Lib.hid (HV.out.drewN q)
    clear HQ HV HB3 HR
    generalize World.drewN _ q = we1 at *
    have q0 : we1.cell? ⟨cb, 0, none⟩ = some (.int .i64 y0) := HS.out.d.cell 0
    have q1 : we1.cell? ⟨cb, 1, none⟩ = some (.int .i64 y1) := HS.out.d.cell 1
    have q2 : we1.cell? ⟨cb, 2, none⟩ = some (.int .i64 y2) := HS.out.d.cell 2
    have q3 : we1.cell? ⟨cb, 3, none⟩ = some (.int .i64 y3) := HS.out.d.cell 3
    have q4 : we1.cell? ⟨cb, 4, none⟩ = some (.bool ph) := HS.out.d.cell 4
    go_wp2_with fail
    clear q0 q1 q2 q3 q4
    refine (HD.out we1).mono ?_
    rintro e wb2 ⟨hw, h⟩
    have HT := Lib.hid (HS.out.call hw)
    clear hw HS
    rcases h with ⟨hfit, g, hgl, rfl, hb⟩ | ⟨hno, rfl⟩
    · have HB := Lib.hid hb
      have hff := doneFits_iff .. |>.2 hfit
      have HFF := Lib.hid hff
      clear hb hfit hff hgl
      have q0 : wb2.cell? ⟨cb, 0, none⟩ = some (.int .i64 y0) := HT.out.d.cell 0
      have q1 : wb2.cell? ⟨cb, 1, none⟩ = some (.int .i64 y1) := HT.out.d.cell 1
      have q2 : wb2.cell? ⟨cb, 2, none⟩ = some (.int .i64 y2) := HT.out.d.cell 2
      have q3 : wb2.cell? ⟨cb, 3, none⟩ = some (.int .i64 y3) := HT.out.d.cell 3
      have q4 : wb2.cell? ⟨cb, 4, none⟩ = some (.bool ph) := HT.out.d.cell 4
      go_wp2_with fail
      clear q0 q1 q2 q3 q4
      refine (HFD.out wb2).mono ?_
      rintro e wc2 ⟨hcase, hw⟩
      have HU := Lib.hid (HT.out.call hw)
      have HB2 := Lib.hid (blk_below HB.out hw)
      clear hw HT HB
      rcases hcase with ⟨_, rfl⟩ | ⟨hbad, _⟩
      case inr => exact absurd HFF.out hbad
      go_wp2_with fail
      refine (error_nil 0 wc2).mono ?_
      rintro e w' ⟨rfl, rfl⟩
      have q0 : wc2.cell? ⟨cb, 0, none⟩ = some (.int .i64 y0) := HU.out.d.cell 0
      have q1 : wc2.cell? ⟨cb, 1, none⟩ = some (.int .i64 y1) := HU.out.d.cell 1
      have q2 : wc2.cell? ⟨cb, 2, none⟩ = some (.int .i64 y2) := HU.out.d.cell 2
      have q3 : wc2.cell? ⟨cb, 3, none⟩ = some (.int .i64 y3) := HU.out.d.cell 3
      have q4 : wc2.cell? ⟨cb, 4, none⟩ = some (.bool ph) := HU.out.d.cell 4
      go_wp2_with fail
      clear q0 q1 q2 q3 q4
      refine (HOD.out wc2 HFF.out).mono ?_
      rintro e wd2 ⟨v, rfl, hown, hw⟩
      have HV := Lib.hid (HU.out.call hw)
      have HB3 := Lib.hid (blk_below HB2.out hw)
      obtain ⟨g2, cap2, rfl, _⟩ := own_form hown (by omega)
      have hl : (doneRef y0 y1 y2 y3 ph).length = 16 := by rw [doneRef_bytes _ _ _ _ _ HFF.out]; exact doneBytes_len _ _
      have HR := Lib.hid (RdB.own hown hl)
      have HQ := Lib.hid (show Calls Tryd.prog 39 #[.slice (some ⟨g, 0, none⟩) 16 16, .slice (some ⟨g2, 0, none⟩) 16 cap2] wd2 _ from by
        have h1 := rdB_blk HB3.out
        rw [← doneRef_bytes _ _ _ _ _ HFF.out] at h1
        have := bytes_same (some ⟨g, 0, none⟩) (some ⟨g2, 0, none⟩) 16 cap2 _ wd2 h1 HR.out (by omega)
        rw [hl] at this
        exact this)
      clear hw hown HU HB2 hl
      go_wp2_with fail
      refine HQ.out.mono ?_
      rintro e w' ⟨rfl, q, rfl⟩
      have HS := Lib.hid (HV.out.drewN q)
      clear HQ HV HB3 HR
      generalize World.drewN _ q = we2 at *
      go_wp2
      go_ret
      exact ⟨rfl, HS.out.bel⟩
    · have hff : ¬ _ := fun h => hno (doneFits_iff .. |>.1 h)
      have HFF := Lib.hid hff
      clear hno hff
      unfold cmdErr
      have q0 : wb2.cell? ⟨cb, 0, none⟩ = some (.int .i64 y0) := HT.out.d.cell 0
      have q1 : wb2.cell? ⟨cb, 1, none⟩ = some (.int .i64 y1) := HT.out.d.cell 1
      have q2 : wb2.cell? ⟨cb, 2, none⟩ = some (.int .i64 y2) := HT.out.d.cell 2
      have q3 : wb2.cell? ⟨cb, 3, none⟩ = some (.int .i64 y3) := HT.out.d.cell 3
      have q4 : wb2.cell? ⟨cb, 4, none⟩ = some (.bool ph) := HT.out.d.cell 4
      go_wp2_with fail
      clear q0 q1 q2 q3 q4
      refine (HFD.out wb2).mono ?_
      rintro e wc2 ⟨hcase, hw⟩
      have HU := Lib.hid (HT.out.call hw)
      clear hw HT
      rcases hcase with ⟨hbad, _⟩ | ⟨_, rfl⟩
      case inl => exact absurd hbad HFF.out
      have EH := Lib.hid (error_hit 1 1 wc2 (HG.out.below hpos HU.out.bel))
      unfold errV at EH
      go_wp2_with fail
      refine EH.out.mono ?_
      rintro e wd2 ⟨rfl, hw⟩
      have HV := Lib.hid (HU.out.call hw)
      have HQ := Lib.hid (show Calls Tryd.prog 39 #[.slice none 0 0, .slice none 0 0] wd2 _ from bytes_same none none 0 0 [] wd2 (.inl rfl) (.inl rfl) (by simp))
      clear hw HU EH
      go_wp2_with fail
      refine HQ.out.mono ?_
      rintro e w' ⟨rfl, q, rfl⟩
      have HS := Lib.hid (HV.out.drewN q)
      clear HQ HV
      generalize World.drewN _ q = we2 at *
      go_wp2
      go_ret
      exact ⟨rfl, HS.out.bel⟩
  · have hff : ¬ _ := fun h => hno (cmdFits_iff .. |>.1 h)
    have HFF := Lib.hid hff
    clear hno hff
    unfold cmdErr
    have q0 : wb1.cell? ⟨w.heap.size, 0, none⟩ = some (.int .i64 x0) := HT.out.c.cell 0
    have q1 : wb1.cell? ⟨w.heap.size, 1, none⟩ = some (.int .i64 x1) := HT.out.c.cell 1
    have q2 : wb1.cell? ⟨w.heap.size, 2, none⟩ = some (.int .i64 x2) := HT.out.c.cell 2
    have q3 : wb1.cell? ⟨w.heap.size, 3, none⟩ = some (.int .i64 x3) := HT.out.c.cell 3
    have q4 : wb1.cell? ⟨w.heap.size, 4, none⟩ = some (.int .i64 x4) := HT.out.c.cell 4
    have q5 : wb1.cell? ⟨w.heap.size, 5, none⟩ = some (.int .i64 x5) := HT.out.c.cell 5
    go_wp2_with fail
    clear q0 q1 q2 q3 q4 q5
    refine (HF.out wb1).mono ?_
    rintro e wc1 ⟨hcase, hw⟩
    have HU := Lib.hid (HT.out.call hw)
    clear hw HT
    rcases hcase with ⟨hbad, _⟩ | ⟨_, rfl⟩
    case inl => exact absurd hbad HFF.out
    have EH := Lib.hid (error_hit 1 1 wc1 (HG.out.below hpos HU.out.bel))
    unfold errV at EH
    go_wp2_with fail
    refine EH.out.mono ?_
    rintro e wd1 ⟨rfl, hw⟩
    have HV := Lib.hid (HU.out.call hw)
    have HQ := Lib.hid (show Calls Tryd.prog 39 #[.slice none 0 0, .slice none 0 0] wd1 _ from bytes_same none none 0 0 [] wd1 (.inl rfl) (.inl rfl) (by simp))
    clear hw HU EH
    go_wp2_with fail
    refine HQ.out.mono ?_
    rintro e w' ⟨rfl, q, rfl⟩
    have HS := Lib.hid (HV.out.drewN q)
    clear HQ HV
    generalize World.drewN _ q = we1 at *
    have q0 : we1.cell? ⟨cb, 0, none⟩ = some (.int .i64 y0) := HS.out.d.cell 0
    have q1 : we1.cell? ⟨cb, 1, none⟩ = some (.int .i64 y1) := HS.out.d.cell 1
    have q2 : we1.cell? ⟨cb, 2, none⟩ = some (.int .i64 y2) := HS.out.d.cell 2
    have q3 : we1.cell? ⟨cb, 3, none⟩ = some (.int .i64 y3) := HS.out.d.cell 3
    have q4 : we1.cell? ⟨cb, 4, none⟩ = some (.bool ph) := HS.out.d.cell 4
    go_wp2_with fail
    clear q0 q1 q2 q3 q4
    refine (HD.out we1).mono ?_
    rintro e wb3 ⟨hw, h⟩
    have HT := Lib.hid (HS.out.call hw)
    clear hw HS
    rcases h with ⟨hfit, g, hgl, rfl, hb⟩ | ⟨hno, rfl⟩
    · have HB := Lib.hid hb
      have hff := doneFits_iff .. |>.2 hfit
      have HFF := Lib.hid hff
      clear hb hfit hff hgl
      have q0 : wb3.cell? ⟨cb, 0, none⟩ = some (.int .i64 y0) := HT.out.d.cell 0
      have q1 : wb3.cell? ⟨cb, 1, none⟩ = some (.int .i64 y1) := HT.out.d.cell 1
      have q2 : wb3.cell? ⟨cb, 2, none⟩ = some (.int .i64 y2) := HT.out.d.cell 2
      have q3 : wb3.cell? ⟨cb, 3, none⟩ = some (.int .i64 y3) := HT.out.d.cell 3
      have q4 : wb3.cell? ⟨cb, 4, none⟩ = some (.bool ph) := HT.out.d.cell 4
      go_wp2_with fail
      clear q0 q1 q2 q3 q4
      refine (HFD.out wb3).mono ?_
      rintro e wc3 ⟨hcase, hw⟩
      have HU := Lib.hid (HT.out.call hw)
      have HB2 := Lib.hid (blk_below HB.out hw)
      clear hw HT HB
      rcases hcase with ⟨_, rfl⟩ | ⟨hbad, _⟩
      case inr => exact absurd HFF.out hbad
      go_wp2_with fail
      refine (error_nil 0 wc3).mono ?_
      rintro e w' ⟨rfl, rfl⟩
      have q0 : wc3.cell? ⟨cb, 0, none⟩ = some (.int .i64 y0) := HU.out.d.cell 0
      have q1 : wc3.cell? ⟨cb, 1, none⟩ = some (.int .i64 y1) := HU.out.d.cell 1
      have q2 : wc3.cell? ⟨cb, 2, none⟩ = some (.int .i64 y2) := HU.out.d.cell 2
      have q3 : wc3.cell? ⟨cb, 3, none⟩ = some (.int .i64 y3) := HU.out.d.cell 3
      have q4 : wc3.cell? ⟨cb, 4, none⟩ = some (.bool ph) := HU.out.d.cell 4
      go_wp2_with fail
      clear q0 q1 q2 q3 q4
      refine (HOD.out wc3 HFF.out).mono ?_
      rintro e wd3 ⟨v, rfl, hown, hw⟩
      have HV := Lib.hid (HU.out.call hw)
      have HB3 := Lib.hid (blk_below HB2.out hw)
      obtain ⟨g2, cap2, rfl, _⟩ := own_form hown (by omega)
      have hl : (doneRef y0 y1 y2 y3 ph).length = 16 := by rw [doneRef_bytes _ _ _ _ _ HFF.out]; exact doneBytes_len _ _
      have HR := Lib.hid (RdB.own hown hl)
      have HQ := Lib.hid (show Calls Tryd.prog 39 #[.slice (some ⟨g, 0, none⟩) 16 16, .slice (some ⟨g2, 0, none⟩) 16 cap2] wd3 _ from by
        have h1 := rdB_blk HB3.out
        rw [← doneRef_bytes _ _ _ _ _ HFF.out] at h1
        have := bytes_same (some ⟨g, 0, none⟩) (some ⟨g2, 0, none⟩) 16 cap2 _ wd3 h1 HR.out (by omega)
        rw [hl] at this
        exact this)
      clear hw hown HU HB2 hl
      go_wp2_with fail
      refine HQ.out.mono ?_
      rintro e w' ⟨rfl, q, rfl⟩
      have HS := Lib.hid (HV.out.drewN q)
      clear HQ HV HB3 HR
      generalize World.drewN _ q = we3 at *
      go_wp2
      go_ret
      exact ⟨rfl, HS.out.bel⟩
    · have hff : ¬ _ := fun h => hno (doneFits_iff .. |>.1 h)
      have HFF := Lib.hid hff
      clear hno hff
      unfold cmdErr
      have q0 : wb3.cell? ⟨cb, 0, none⟩ = some (.int .i64 y0) := HT.out.d.cell 0
      have q1 : wb3.cell? ⟨cb, 1, none⟩ = some (.int .i64 y1) := HT.out.d.cell 1
      have q2 : wb3.cell? ⟨cb, 2, none⟩ = some (.int .i64 y2) := HT.out.d.cell 2
      have q3 : wb3.cell? ⟨cb, 3, none⟩ = some (.int .i64 y3) := HT.out.d.cell 3
      have q4 : wb3.cell? ⟨cb, 4, none⟩ = some (.bool ph) := HT.out.d.cell 4
      go_wp2_with fail
      clear q0 q1 q2 q3 q4
      refine (HFD.out wb3).mono ?_
      rintro e wc3 ⟨hcase, hw⟩
      have HU := Lib.hid (HT.out.call hw)
      clear hw HT
      rcases hcase with ⟨hbad, _⟩ | ⟨_, rfl⟩
      case inl => exact absurd hbad HFF.out
      have EH := Lib.hid (error_hit 1 1 wc3 (HG.out.below hpos HU.out.bel))
      unfold errV at EH
      go_wp2_with fail
      refine EH.out.mono ?_
      rintro e wd3 ⟨rfl, hw⟩
      have HV := Lib.hid (HU.out.call hw)
      have HQ := Lib.hid (show Calls Tryd.prog 39 #[.slice none 0 0, .slice none 0 0] wd3 _ from bytes_same none none 0 0 [] wd3 (.inl rfl) (.inl rfl) (by simp))
      clear hw HU EH
      go_wp2_with fail
      refine HQ.out.mono ?_
      rintro e w' ⟨rfl, q, rfl⟩
      have HS := Lib.hid (HV.out.drewN q)
      clear HQ HV
      generalize World.drewN _ q = we3 at *
      go_wp2
      go_ret
      exact ⟨rfl, HS.out.bel⟩
end Go.Proofs.YtkehhfgoikbciaaDoor
