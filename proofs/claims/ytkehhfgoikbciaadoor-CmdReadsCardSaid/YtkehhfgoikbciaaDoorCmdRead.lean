/- granaryref2.CommandRead. -/
import Derived.Test.YtkehhfgoikbciaaDoorCmdD
import Derived.Test.YtkehhfgoikbciaaDoorNumberAt
import Derived.BigRegion
import Derived.BigQuiet
namespace Go.Proofs.YtkehhfgoikbciaaDoor
open Go.RowKit Go.WideShapes
set_option linter.unusedVariables false

theorem drop_cons (bs : List Int) (i : Nat) (h : i < bs.length) : bs.drop i = bs.getD i 0 :: bs.drop (i + 1) := by
  rw [List.drop_eq_getElem_cons h]
  simp [List.getD, h]
theorem cmdAt_zero (bs : List Int) (h : bs.length = 64) : cmdAt bs 0 = bs.getD 0 0 := by
  show leNum ((bs.drop 0).take 1) = _
  rw [drop_cons bs 0 (by omega)]
  simp [leNum]
theorem cmdAt_one (bs : List Int) (h : bs.length = 64) : cmdAt bs 1 = bs.getD 2 0 + 256 * bs.getD 3 0 := by
  show leNum ((bs.drop 2).take 2) = _
  rw [drop_cons bs 2 (by omega), drop_cons bs (2 + 1) (by omega)]
  simp [leNum]
theorem cmdAt_three (bs : List Int) (h : bs.length = 64) : cmdAt bs 3 = bs.getD 16 0 + 256 * bs.getD 17 0 + 65536 * bs.getD 18 0 + 16777216 * bs.getD 19 0 := by
  show leNum ((bs.drop 16).take 4) = _
  rw [drop_cons bs 16 (by omega), drop_cons bs (16 + 1) (by omega), drop_cons bs (16 + 1 + 1) (by omega), drop_cons bs (16 + 1 + 1 + 1) (by omega)]
  simp only [List.take_succ_cons, List.take_zero, leNum, Nat.reduceAdd]
  omega

set_option maxRecDepth 100000 in
set_option maxHeartbeats 4000000 in
theorem command_read_bad (a : Option Addr) (n c : Nat) (w : World) (hn : n ≤ 9223372036854775807) (h : n ≠ 64) :
    Calls Tryd.prog 44 #[.slice a n c] w fun e w' => e = .returned (.tuple #[zeroCmd, .int .i64 2]) ∧ Below w.heap.size w w' := by
  have hne : ((n : Int) == 64) = false := by simp; omega
  clear h
  go_enter Tryd.func44, Tryd.ntmps44
  go_wp2
  exact bodyPost_ret (v := .tuple #[zeroCmd, .int .i64 2]) (by simp [results, Tryd.results44, go_sem, zeroCmd]) rfl ⟨rfl, by (repeat (first | with_reducible exact Below.refl _ _ | with_reducible apply Below.drew | with_reducible apply below_drewN | (with_reducible refine Below.alloc ?_ (by simp) _) | (with_reducible refine Below.setCell ?_ (by simp) _)))⟩

theorem cmdOk_nums (bs : List Int) (h : bs.length = 64) (hb : ∀ x ∈ bs, 0 ≤ x ∧ x ≤ 255) : cmdOk bs 6 ↔ numOk ((bs.drop 8).take 8) = true ∧ numOk ((bs.drop 24).take 8) = true ∧ numOk ((bs.drop 32).take 8) = true := by
  have hg : ∀ i, i < 64 → 0 ≤ bs.getD i 0 ∧ bs.getD i 0 ≤ 255 := fun i hi => hb _ (by simp [List.getD, show i < bs.length by omega])
  have e2 : cmdAt bs 2 = leNum ((bs.drop 8).take 8) := rfl
  have e4 : cmdAt bs 4 = leNum ((bs.drop 24).take 8) := rfl
  have e5 : cmdAt bs 5 = leNum ((bs.drop 32).take 8) := rfl
  unfold numOk
  rw [← e2, ← e4, ← e5]
  constructor
  · intro hk
    exact ⟨decide_eq_true (hk 2 (by omega)), decide_eq_true (hk 4 (by omega)), decide_eq_true (hk 5 (by omega))⟩
  · rintro ⟨h2, h4, h5⟩
    refine six ?_ ?_ (of_decide_eq_true h2) ?_ (of_decide_eq_true h4) (of_decide_eq_true h5)
    · rw [cmdAt_zero bs h]; have := hg 0 (by omega); omega
    · rw [cmdAt_one bs h]; have := hg 2 (by omega); have := hg 3 (by omega); omega
    · rw [cmdAt_three bs h]; have := hg 16 (by omega); have := hg 17 (by omega); have := hg 18 (by omega); have := hg 19 (by omega); omega
theorem num_sub (bb off p c : Nat) (bs : List Int) (w : World) (hp : p + 8 ≤ bs.length) (hb : ∀ x ∈ bs, 0 ≤ x ∧ x ≤ 255) (hc : ∀ i, i < bs.length → w.cell? ⟨bb, off + i, none⟩ = some (.int .u8 (bs.getD i 0))) :
    Calls Tryd.prog 84 #[.slice (some ⟨bb, off + p, none⟩) 8 c] w fun e w' => e = .returned (.tuple #[.int .i64 (if numOk ((bs.drop p).take 8) then leNum ((bs.drop p).take 8) else 0), .bool (numOk ((bs.drop p).take 8))]) ∧ w = w' := by
  refine ref_numberAt bb (off + p) c _ w (by simp; omega) (fun x hx => hb x (List.mem_of_mem_drop (List.mem_of_mem_take hx))) (fun i hi => ?_)
  have := hc (p + i) (by omega)
  rw [Nat.add_assoc, this]
  simp [List.getD, List.getElem?_drop, hi]

set_option maxRecDepth 100000 in
set_option maxHeartbeats 4000000 in
theorem command_read (bb off c : Nat) (bs : List Int) (w : World) (hcap : 64 ≤ c) (hbs : bs.length = 64) (hbyte : ∀ x ∈ bs, 0 ≤ x ∧ x ≤ 255) (hbl : bb < w.heap.size)
    (hc : ∀ i, i < 64 → w.cell? ⟨bb, off + i, none⟩ = some (.int .u8 (bs.getD i 0))) :
    Calls Tryd.prog 44 #[.slice (some ⟨bb, off, none⟩) 64 c] w fun e w' => ((cmdOk bs 6 ∧ e = .returned (.tuple #[cmdV (cmdAt bs 0) (cmdAt bs 1) (cmdAt bs 2) (cmdAt bs 3) (cmdAt bs 4) (cmdAt bs 5), .int .i64 0])) ∨
      (¬ cmdOk bs 6 ∧ e = .returned (.tuple #[zeroCmd, .int .i64 1]))) ∧ Below w.heap.size w w' := by
  have hb : ∀ i, i < 64 → 0 ≤ bs.getD i 0 ∧ bs.getD i 0 ≤ 255 := fun i hi => hbyte _ (by simp [List.getD, show i < bs.length by omega])
  have HB := Lib.hid hb
  have Hc := Lib.hid hc
  have Hbyte := Lib.hid hbyte
  clear hb hc hbyte
  go_enter Tryd.func44, Tryd.ntmps44
  go_wp2_with fail
  have hB0 : Blk (w.alloc (.cells zero6 63)) w.heap.size zero6 63 := Blk.new _ _ _
  have hbe0 : Below w.heap.size w (w.alloc (.cells zero6 63)) := (Below.refl _ _).alloc (Nat.le_refl _) _
  have hc0 := fun i (hi : i < 64) => (hbe0.cell (p := ⟨bb, off + i, none⟩) hbl).trans (Hc.out i hi)
  have c0 := hc0 0 (by omega)
  rw [Nat.add_zero] at c0
  have c2 := hc0 2 (by omega)
  have c3 := hc0 3 (by omega)
  have k0 := HB.out 0 (by omega)
  have k2 := HB.out 2 (by omega)
  have k3 := HB.out 3 (by omega)
  clear hc0
  unfold zero6 at *
  have hlt1 := hB0.lt
  have HB0 := Lib.hid hB0
  have Hbe0 := Lib.hid hbe0
  clear hB0 hbe0
  have X0 := Lib.hid (cmdAt_zero bs hbs)
  have X1 := Lib.hid (cmdAt_one bs hbs)
  have X3 := Lib.hid (cmdAt_three bs hbs)
  generalize bs.getD 0 0 = b0 at c0 k0 X0
  generalize bs.getD 2 0 = b2 at c2 k2 X1
  generalize bs.getD 3 0 = b3 at c3 k3 X1
  generalize w.alloc _ = w1 at *
  have hb1 : bb < w1.heap.size := by omega
  go_region
  have hB1 := Blk.new w1 #[.int .i64 b0, .int .i64 (b2 + 256 * b3), .int .i64 0, .int .i64 0, .int .i64 0, .int .i64 0] 63
  obtain ⟨cb, hcb⟩ : ∃ cb, cb = w1.heap.size := ⟨_, rfl⟩
  rw [← hcb] at hB1 ⊢
  rw [← X1.out, ← X0.out] at hB1 ⊢
  have hB2 : Blk (w1.alloc (.cells #[.int .i64 (cmdAt bs 0), .int .i64 (cmdAt bs 1), .int .i64 0, .int .i64 0, .int .i64 0, .int .i64 0] 63)).drew w.heap.size _ _ := (HB0.out.alloc _).drew
  have hbe2 : Below w.heap.size w (w1.alloc (.cells #[.int .i64 (cmdAt bs 0), .int .i64 (cmdAt bs 1), .int .i64 0, .int .i64 0, .int .i64 0, .int .i64 0] 63)).drew := by
    have h := Hbe0.out.alloc Hbe0.out.size (.cells #[.int .i64 (cmdAt bs 0), .int .i64 (cmdAt bs 1), .int .i64 0, .int .i64 0, .int .i64 0, .int .i64 0] 63)
    exact ⟨h.os, h.tape, h.output, h.size, h.block⟩
  have hB1' := hB1.drew
  have hcbl : w.heap.size < cb := by omega
  clear c0 c2 c3 k0 k2 k3 hlt1 hcb hb1 HB0 Hbe0 hB1 X0 X1
  generalize (w1.alloc _).drew = w2 at *
  have c16 := (hbe2.cell (p := ⟨bb, off + 16, none⟩) hbl).trans (Hc.out 16 (by omega))
  have c17 := (hbe2.cell (p := ⟨bb, off + 17, none⟩) hbl).trans (Hc.out 17 (by omega))
  have c18 := (hbe2.cell (p := ⟨bb, off + 18, none⟩) hbl).trans (Hc.out 18 (by omega))
  have c19 := (hbe2.cell (p := ⟨bb, off + 19, none⟩) hbl).trans (Hc.out 19 (by omega))
  have k16 := HB.out 16 (by omega)
  have k17 := HB.out 17 (by omega)
  have k18 := HB.out 18 (by omega)
  have k19 := HB.out 19 (by omega)
  generalize bs.getD 16 0 = b16 at c16 k16 X3
  generalize bs.getD 17 0 = b17 at c17 k17 X3
  generalize bs.getD 18 0 = b18 at c18 k18 X3
  generalize bs.getD 19 0 = b19 at c19 k19 X3
  obtain ⟨x0, hx0⟩ : ∃ x, x = cmdAt bs 0 := ⟨_, rfl⟩
  obtain ⟨x1, hx1⟩ : ∃ x, x = cmdAt bs 1 := ⟨_, rfl⟩
  rw [← hx0, ← hx1] at hB1' ⊢
  have Hx0 := Lib.hid hx0
  have Hx1 := Lib.hid hx1
  have g3 : w2.cell? ⟨cb, 3, none⟩ = some (.int .i64 0) := hB1'.cell 3
  have f3 := hB1'.free 3
  have HB1 := Lib.hid hB1'
  have HB2 := Lib.hid hB2
  have Hbe2 := Lib.hid hbe2
  clear hx0 hx1 hB1' hB2 hbe2
  go_wp2_with fail
  go_region
  rw [← X3.out]
  obtain ⟨x3, hx3⟩ : ∃ x, x = cmdAt bs 3 := ⟨_, rfl⟩
  rw [← hx3]
  have Hx3 := Lib.hid hx3
  have hB1 : Blk (w2.setCell ⟨cb, 3, none⟩ (.int .i64 x3)).drew cb #[.int .i64 x0, .int .i64 x1, .int .i64 0, .int .i64 x3, .int .i64 0, .int .i64 0] 63 := ((HB1.out.set 3 (.int .i64 x3)).of (by simp)).drew
  have hB2 := (HB2.out.setOther (a := ⟨cb, 3, none⟩) (by simp; omega) (.int .i64 x3)).drew
  have hbe : Below w.heap.size w (w2.setCell ⟨cb, 3, none⟩ (.int .i64 x3)).drew := by
    have h : Below w.heap.size w (w2.setCell ⟨cb, 3, none⟩ (.int .i64 x3)) := Hbe2.out.setCell (by simp; omega) _
    exact ⟨h.os, h.tape, h.output, h.size, h.block⟩
  have HB1' := Lib.hid hB1
  have HB2' := Lib.hid hB2
  have Hbe' := Lib.hid hbe
  clear hx3 hB1 hB2 hbe HB1 HB2 Hbe2 c16 c17 c18 c19 k16 k17 k18 k19 g3 f3 X3
  generalize (w2.setCell _ _).drew = w3 at *
  have Hc3 := Lib.hid (fun i (hi : i < bs.length) => (Hbe'.out.cell (p := ⟨bb, off + i, none⟩) hbl).trans (Hc.out i (by omega)))
  have N8 := Lib.hid (num_sub bb off 8 (c - 8) bs w3 (by omega) Hbyte.out Hc3.out)
  have N24 := Lib.hid (num_sub bb off 24 (c - 24) bs w3 (by omega) Hbyte.out Hc3.out)
  have N32 := Lib.hid (num_sub bb off 32 (c - 32) bs w3 (by omega) Hbyte.out Hc3.out)
  have HK := Lib.hid (cmdOk_nums bs hbs Hbyte.out)
  have E2 := Lib.hid (show cmdAt bs 2 = leNum ((bs.drop 8).take 8) from rfl)
  have E4 := Lib.hid (show cmdAt bs 4 = leNum ((bs.drop 24).take 8) from rfl)
  have E5 := Lib.hid (show cmdAt bs 5 = leNum ((bs.drop 32).take 8) from rfl)
  rw [← E2.out] at N8
  rw [← E4.out] at N24
  rw [← E5.out] at N32
  have hl16 : (16 : Int) ≤ (c : Int) := by omega
  have hl32 : (32 : Int) ≤ (c : Int) := by omega
  have hl40 : (40 : Int) ≤ (c : Int) := by omega
  clear E2 E4 E5 HB Hc Hbyte Hc3
  generalize numOk ((bs.drop 8).take 8) = o2 at *
  generalize numOk ((bs.drop 24).take 8) = o4 at *
  generalize numOk ((bs.drop 32).take 8) = o5 at *
  generalize hy2 : (if o2 = true then cmdAt bs 2 else 0) = y2 at N8
  generalize hy4 : (if o4 = true then cmdAt bs 4 else 0) = y4 at N24
  generalize hy5 : (if o5 = true then cmdAt bs 5 else 0) = y5 at N32
  have Hy2 := Lib.hid hy2
  have Hy4 := Lib.hid hy4
  have Hy5 := Lib.hid hy5
  clear hy2 hy4 hy5
  go_wp2_with fail
  refine N8.out.mono ?_
  rintro e w' ⟨rfl, rfl⟩
  go_wp2_with fail
  refine N24.out.mono ?_
  rintro e w' ⟨rfl, rfl⟩
  go_wp2_with fail
  refine N32.out.mono ?_
  rintro e w' ⟨rfl, rfl⟩
  clear N8 N24 N32
  cases o2 with
  | false =>
    go_wp2_with (with_reducible refine wpList_stop (.store 63 (.tmp 2) (.tmp 81)) rfl ?_)
    refine .inr ?_
    refine wpList_store_row rfl 63 (.tmp 2) (.tmp 81) rfl w.heap.size #[.int .i64 0, .int .i64 0, .int .i64 0, .int .i64 0, .int .i64 0, .int .i64 0] rfl rfl 63 _ HB2'.out (by kernel_rfl) rfl (by simp [Value.oneCell']) ?_
    have hrow := setRow_heap w3 w.heap.size _ #[.int .i64 0, .int .i64 0, .int .i64 0, .int .i64 0, .int .i64 0, .int .i64 0] 63 (0, 0) HB2'.out
    have hbe2 := below_setRow Hbe'.out (Nat.le_refl w.heap.size) #[.int .i64 0, .int .i64 0, .int .i64 0, .int .i64 0, .int .i64 0, .int .i64 0]
    clear HB1' HB2' Hbe'
    generalize w3.setRow w.heap.size #[.int .i64 0, .int .i64 0, .int .i64 0, .int .i64 0, .int .i64 0, .int .i64 0] = W3 at hrow hbe2 ⊢
    have hrow' : Blk W3 w.heap.size #[.int .i64 0, .int .i64 0, .int .i64 0, .int .i64 0, .int .i64 0, .int .i64 0] 63 := hrow
    have q0 := hrow'.cell 0
    have q1 := hrow'.cell 1
    have q2 := hrow'.cell 2
    have q3 := hrow'.cell 3
    have q4 := hrow'.cell 4
    have q5 := hrow'.cell 5
    simp only [List.getElem?_toArray, List.getElem?_cons_zero, List.getElem?_cons_succ] at q0 q1 q2 q3 q4 q5
    have Hbe2 := Lib.hid hbe2
    have HN : Hid (¬ cmdOk bs 6) := Lib.hid (fun h => by have := HK.out.1 h; simp at this)
    clear hrow hrow' hbe2 HK
    go_wp2
    exact bodyPost_ret (v := .tuple #[zeroCmd, .int .i64 1]) (by simp [results, Tryd.results44, go_sem, zeroCmd, q0, q1, q2, q3, q4, q5]) rfl ⟨.inr ⟨HN.out, rfl⟩, Hbe2.out⟩
  | true =>
    cases o4 with
    | false =>
      go_wp2_with (with_reducible refine wpList_stop (.store 63 (.tmp 2) (.tmp 81)) rfl ?_)
      refine .inr ?_
      refine wpList_store_row rfl 63 (.tmp 2) (.tmp 81) rfl w.heap.size #[.int .i64 0, .int .i64 0, .int .i64 0, .int .i64 0, .int .i64 0, .int .i64 0] rfl rfl 63 _ HB2'.out (by kernel_rfl) rfl (by simp [Value.oneCell']) ?_
      have hrow := setRow_heap w3 w.heap.size _ #[.int .i64 0, .int .i64 0, .int .i64 0, .int .i64 0, .int .i64 0, .int .i64 0] 63 (0, 0) HB2'.out
      have hbe2 := below_setRow Hbe'.out (Nat.le_refl w.heap.size) #[.int .i64 0, .int .i64 0, .int .i64 0, .int .i64 0, .int .i64 0, .int .i64 0]
      clear HB1' HB2' Hbe'
      generalize w3.setRow w.heap.size #[.int .i64 0, .int .i64 0, .int .i64 0, .int .i64 0, .int .i64 0, .int .i64 0] = W3 at hrow hbe2 ⊢
      have hrow' : Blk W3 w.heap.size #[.int .i64 0, .int .i64 0, .int .i64 0, .int .i64 0, .int .i64 0, .int .i64 0] 63 := hrow
      have q0 := hrow'.cell 0
      have q1 := hrow'.cell 1
      have q2 := hrow'.cell 2
      have q3 := hrow'.cell 3
      have q4 := hrow'.cell 4
      have q5 := hrow'.cell 5
      simp only [List.getElem?_toArray, List.getElem?_cons_zero, List.getElem?_cons_succ] at q0 q1 q2 q3 q4 q5
      have Hbe2 := Lib.hid hbe2
      have HN : Hid (¬ cmdOk bs 6) := Lib.hid (fun h => by have := HK.out.1 h; simp at this)
      clear hrow hrow' hbe2 HK
      go_wp2
      exact bodyPost_ret (v := .tuple #[zeroCmd, .int .i64 1]) (by simp [results, Tryd.results44, go_sem, zeroCmd, q0, q1, q2, q3, q4, q5]) rfl ⟨.inr ⟨HN.out, rfl⟩, Hbe2.out⟩
    | true =>
      cases o5 with
      | false =>
        go_wp2_with (with_reducible refine wpList_stop (.store 63 (.tmp 2) (.tmp 81)) rfl ?_)
        refine .inr ?_
        refine wpList_store_row rfl 63 (.tmp 2) (.tmp 81) rfl w.heap.size #[.int .i64 0, .int .i64 0, .int .i64 0, .int .i64 0, .int .i64 0, .int .i64 0] rfl rfl 63 _ HB2'.out (by kernel_rfl) rfl (by simp [Value.oneCell']) ?_
        have hrow := setRow_heap w3 w.heap.size _ #[.int .i64 0, .int .i64 0, .int .i64 0, .int .i64 0, .int .i64 0, .int .i64 0] 63 (0, 0) HB2'.out
        have hbe2 := below_setRow Hbe'.out (Nat.le_refl w.heap.size) #[.int .i64 0, .int .i64 0, .int .i64 0, .int .i64 0, .int .i64 0, .int .i64 0]
        clear HB1' HB2' Hbe'
        generalize w3.setRow w.heap.size #[.int .i64 0, .int .i64 0, .int .i64 0, .int .i64 0, .int .i64 0, .int .i64 0] = W3 at hrow hbe2 ⊢
        have hrow' : Blk W3 w.heap.size #[.int .i64 0, .int .i64 0, .int .i64 0, .int .i64 0, .int .i64 0, .int .i64 0] 63 := hrow
        have q0 := hrow'.cell 0
        have q1 := hrow'.cell 1
        have q2 := hrow'.cell 2
        have q3 := hrow'.cell 3
        have q4 := hrow'.cell 4
        have q5 := hrow'.cell 5
        simp only [List.getElem?_toArray, List.getElem?_cons_zero, List.getElem?_cons_succ] at q0 q1 q2 q3 q4 q5
        have Hbe2 := Lib.hid hbe2
        have HN : Hid (¬ cmdOk bs 6) := Lib.hid (fun h => by have := HK.out.1 h; simp at this)
        clear hrow hrow' hbe2 HK
        go_wp2
        exact bodyPost_ret (v := .tuple #[zeroCmd, .int .i64 1]) (by simp [results, Tryd.results44, go_sem, zeroCmd, q0, q1, q2, q3, q4, q5]) rfl ⟨.inr ⟨HN.out, rfl⟩, Hbe2.out⟩
      | true =>
        have g2 : w3.cell? ⟨cb, 2, none⟩ = some (.int .i64 0) := HB1'.out.cell 2
        have g4 : w3.cell? ⟨cb, 4, none⟩ = some (.int .i64 0) := HB1'.out.cell 4
        have g5 : w3.cell? ⟨cb, 5, none⟩ = some (.int .i64 0) := HB1'.out.cell 5
        have f2 := HB1'.out.free 2
        have f4 := HB1'.out.free 4
        have f5 := HB1'.out.free 5
        have hcl := HB1'.out.lt
        have hset : Blk (((w3.setCell ⟨cb, 2, none⟩ (.int .i64 y2)).setCell ⟨cb, 4, none⟩ (.int .i64 y4)).setCell ⟨cb, 5, none⟩ (.int .i64 y5)) cb #[.int .i64 x0, .int .i64 x1, .int .i64 y2, .int .i64 x3, .int .i64 y4, .int .i64 y5] 63 := (((HB1'.out.set 2 (.int .i64 y2)).set 4 (.int .i64 y4)).set 5 (.int .i64 y5)).of (by simp)
        have hrr : Blk (((w3.setCell ⟨cb, 2, none⟩ (.int .i64 y2)).setCell ⟨cb, 4, none⟩ (.int .i64 y4)).setCell ⟨cb, 5, none⟩ (.int .i64 y5)) w.heap.size _ 63 := ((HB2'.out.setOther (by simp; omega) _).setOther (by simp; omega) _).setOther (by simp; omega) _
        have hbe : Below w.heap.size w (((w3.setCell ⟨cb, 2, none⟩ (.int .i64 y2)).setCell ⟨cb, 4, none⟩ (.int .i64 y4)).setCell ⟨cb, 5, none⟩ (.int .i64 y5)) := ((Hbe'.out.setCell (by simp; omega) _).setCell (by simp; omega) _).setCell (by simp; omega) _
        have Hset := Lib.hid hset
        have Hrr := Lib.hid hrr
        have Hbee := Lib.hid hbe
        have p0 := hset.cell 0
        have p1 := hset.cell 1
        have p2 := hset.cell 2
        have p3 := hset.cell 3
        have p4 := hset.cell 4
        have p5 := hset.cell 5
        simp only [List.getElem?_toArray, List.getElem?_cons_zero, List.getElem?_cons_succ] at p0 p1 p2 p3 p4 p5
        have P0 := Lib.hid p0
        have P1 := Lib.hid p1
        have P2 := Lib.hid p2
        have P3 := Lib.hid p3
        have P4 := Lib.hid p4
        have P5 := Lib.hid p5
        clear hset hrr hbe p0 p1 p2 p3 p4 p5
        go_wp2_with (with_reducible refine wpList_stop (.load 63 (.tmp 4)) rfl ?_)
        refine .inr ?_
        clear g2 g4 g5 f2 f4 f5 HB1' HB2' Hbe'
        generalize ((w3.setCell ⟨cb, 2, none⟩ (.int .i64 y2)).setCell ⟨cb, 4, none⟩ (.int .i64 y4)).setCell ⟨cb, 5, none⟩ (.int .i64 y5) = W2 at *
        have p0 := P0.out
        have p1 := P1.out
        have p2 := P2.out
        have p3 := P3.out
        have p4 := P4.out
        have p5 := P5.out
        go_wp2_with (with_reducible refine wpList_stop (.store 63 (.tmp 2) (.tmp 88)) rfl ?_)
        refine .inr ?_
        refine wpList_store_row rfl 63 (.tmp 2) (.tmp 88) rfl w.heap.size #[.int .i64 x0, .int .i64 x1, .int .i64 y2, .int .i64 x3, .int .i64 y4, .int .i64 y5] rfl rfl 63 _ Hrr.out (by kernel_rfl) rfl (by simp [Value.oneCell']) ?_
        have hrow := setRow_heap W2 w.heap.size _ #[.int .i64 x0, .int .i64 x1, .int .i64 y2, .int .i64 x3, .int .i64 y4, .int .i64 y5] 63 (0, 0) Hrr.out
        have hbe2 := below_setRow Hbee.out (Nat.le_refl w.heap.size) #[.int .i64 x0, .int .i64 x1, .int .i64 y2, .int .i64 x3, .int .i64 y4, .int .i64 y5]
        clear p0 p1 p2 p3 p4 p5 P0 P1 P2 P3 P4 P5 Hset Hrr Hbee
        generalize W2.setRow w.heap.size #[.int .i64 x0, .int .i64 x1, .int .i64 y2, .int .i64 x3, .int .i64 y4, .int .i64 y5] = W3 at hrow hbe2 ⊢
        have hrow' : Blk W3 w.heap.size #[.int .i64 x0, .int .i64 x1, .int .i64 y2, .int .i64 x3, .int .i64 y4, .int .i64 y5] 63 := hrow
        have q0 := hrow'.cell 0
        have q1 := hrow'.cell 1
        have q2 := hrow'.cell 2
        have q3 := hrow'.cell 3
        have q4 := hrow'.cell 4
        have q5 := hrow'.cell 5
        simp only [List.getElem?_toArray, List.getElem?_cons_zero, List.getElem?_cons_succ] at q0 q1 q2 q3 q4 q5
        have Hbe2 := Lib.hid hbe2
        have HN : Hid (cmdOk bs 6) := Lib.hid (HK.out.2 (by simp))
        clear hrow hrow' hbe2 HK
        go_wp2
        exact bodyPost_ret (v := .tuple #[cmdV x0 x1 y2 x3 y4 y5, .int .i64 0]) (by simp [results, Tryd.results44, go_sem, cmdV, q0, q1, q2, q3, q4, q5]) rfl ⟨.inl ⟨HN.out, by rw [Hx0.out, Hx1.out, Hx3.out, ← Hy2.out, ← Hy4.out, ← Hy5.out]; rfl⟩, Hbe2.out⟩
end Go.Proofs.YtkehhfgoikbciaaDoor
