/- Parts of the proof of TopCommandsProof: FrPack FrOpen6 FrOpen. -/
import Derived.Lib.SliceRun
import Derived.Deep.OwnRows
import Derived.WalkSpells
import Derived.RegionTactic
import Derived.BigRegion
import Derived.Laws.Closers25b
import Derived.StillTailTactics
import Derived.Test.YtdkpbobglogmoaaGreatProg
import Derived.WalkKit
import Derived.BigQuiet
import Derived.Laws.Rows
import Derived.Test.YtdkpbobglogmoaaGreatTk14
set_option linter.unusedVariables false
set_option linter.unusedSimpArgs false
set_option maxRecDepth 100000
set_option maxHeartbeats 32000000
namespace Go.Proofs.YtdkpbobglogmoaaGreat
open Go.RowKit Go.WideShapes
def packA (n : Nat) (kind : Int) : List Int := (((List.replicate n (0 : Int)).set 0 165).set 1 (kind % 256)).set (n - 1) 90
def packB (n : Nat) (kind lba seq long : Int) : List Int := splice (splice (splice (packA n kind) 2 (leDig 4 lba)) 6 (leDig 8 seq)) 14 (leDig 2 long)
def packC (n : Nat) (kind lba seq : Int) (data : List Int) : List Int := splice (packB n kind lba seq data.length) 20 data
def packOf (n : Nat) (kind lba seq : Int) (data : List Int) : List Int := splice (packC n kind lba seq data) 16 (leDig 4 (crcOf (packC n kind lba seq data)))
def packOk (n : Int) (kind lba seq : Int) : Bool := 24 ≤ n && n ≤ 4096 && 1 ≤ kind && kind ≤ 3 && 0 ≤ lba && lba < 4294967296 && 0 ≤ seq && seq ≤ 4611686018427387904
theorem fr_madeCells_u8' (n : Nat) : madeCells #[.int .u8 0] n = ((List.replicate n (0 : Int)).map (Value.int .u8)).toArray := by
  apply Array.toList_inj.1
  rw [toList_madeCells_one]
  simp
theorem packA_byte (n : Nat) (kind : Int) : ∀ x ∈ packA n kind, 0 ≤ x ∧ x ≤ 255 := by
  intro x hx
  unfold packA at hx
  rcases List.mem_or_eq_of_mem_set hx with hx | rfl
  · rcases List.mem_or_eq_of_mem_set hx with hx | rfl
    · rcases List.mem_or_eq_of_mem_set hx with hx | rfl
      · have := (List.mem_replicate.1 hx).2; omega
      · omega
    · omega
  · omega
theorem packC_byte (n : Nat) (kind lba seq : Int) (m : Nat) (data : List Int) (hd : ∀ x ∈ data, 0 ≤ x ∧ x ≤ 255) :
    ∀ x ∈ splice (splice (splice (splice (packA n kind) 2 (leDig 4 lba)) 6 (leDig 8 seq)) 14 (leDig 2 (m : Int))) 20 data, 0 ≤ x ∧ x ≤ 255 := by
  intro x hx
  rcases mem_splice hx with hx | hx
  · rcases mem_splice hx with hx | hx
    · rcases mem_splice hx with hx | hx
      · rcases mem_splice hx with hx | hx
        · exact packA_byte n kind x hx
        · exact leDig_byte _ _ x hx
      · exact leDig_byte _ _ x hx
    · exact leDig_byte _ _ x hx
  · exact hd x hx
theorem frame_pack_ok (n : Nat) (kind lba seq : Int) (a : Option Addr) (c : Nat) (data : List Int) (w : World) (hok : packOk n kind lba seq = true) (hl : data.length + 21 ≤ n) (hdat : ∀ x ∈ data, 0 ≤ x ∧ x ≤ 255)
    (hr : ∀ w', Below w.heap.size w w' → RdB w' a data) :
    Calls Tryz.prog 10 #[.int .i64 n, .agg #[.int .i64 kind, .int .i64 lba, .int .i64 seq, .slice a data.length c]] w fun e w' =>
      ∃ g, w.heap.size ≤ g ∧ e = .returned (.tuple #[.slice (some ⟨g, 0, none⟩) n n, .nilIface]) ∧ Blk w' g ((packOf n kind lba seq data).map (Value.int .u8)).toArray 5 ∧ Below w.heap.size w w' := by
  simp only [packOk, Bool.and_eq_true, decide_eq_true_eq] at hok
  obtain ⟨⟨⟨⟨⟨⟨⟨n0, n1⟩, k0⟩, k1⟩, l0⟩, l1⟩, s0⟩, s1⟩ := hok
  have hmk := fun (w : World) => run_make_row' (P := Tryz.prog) 33 5 (.int .u8 0) 1 Tryz.underlying33 (by kernel_rfl) rfl .i64 .i64 n (by omega) (by omega) w
  have d1 : decide ((n : Int) < 24) = false := decide_eq_false (by omega)
  have d2 : decide (4096 < (n : Int)) = false := decide_eq_false (by omega)
  have d3 : decide (kind < 1) = false := decide_eq_false (by omega)
  have d4 : decide (3 < kind) = false := decide_eq_false (by omega)
  have d5 : decide (lba < 0) = false := decide_eq_false (by omega)
  have d6 : decide (4294967296 ≤ lba) = false := decide_eq_false (by omega)
  have d7 : decide (seq < 0) = false := decide_eq_false (by omega)
  have d8 : decide (4611686018427387904 < seq) = false := decide_eq_false (by omega)
  obtain ⟨m, hm⟩ : ∃ m, m = data.length := ⟨_, rfl⟩
  rw [← hm] at hl ⊢
  have Hm := Lib.hid hm
  have Hr := Lib.hid hr
  have Hdat := Lib.hid hdat
  clear hm hr hdat
  have d9 : decide ((n : Int) - 20 - 1 < m) = false := decide_eq_false (by omega)
  go_enter Tryz.func10, Tryz.ntmps10
  go_wp2_with fail
  have hf0 := (Blk.new w #[.int .i64 kind, .int .i64 lba, .int .i64 seq, .slice a m c] 46).alloc (.cells (madeCells #[.int .u8 0] n) 5)
  have hb0 := (Blk.new (w.alloc (.cells #[.int .i64 kind, .int .i64 lba, .int .i64 seq, .slice a m c] 46)) (madeCells #[.int .u8 0] n) 5).of (fr_madeCells_u8' n)
  have hbe0 : Below w.heap.size w ((w.alloc (.cells #[.int .i64 kind, .int .i64 lba, .int .i64 seq, .slice a m c] 46)).alloc (.cells (madeCells #[.int .u8 0] n) 5)) := ((Below.refl _ _).alloc (Nat.le_refl _) _).alloc (by simp) _
  have hsz0 : (w.alloc (.cells #[.int .i64 kind, .int .i64 lba, .int .i64 seq, .slice a m c] 46)).heap.size = w.heap.size + 1 := by simp
  rw [hsz0] at hb0
  generalize hW : (w.alloc (.cells #[.int .i64 kind, .int .i64 lba, .int .i64 seq, .slice a m c] 46)).alloc (.cells (madeCells #[.int .u8 0] n) 5) = W at *
  obtain ⟨pb, hpb⟩ : ∃ pb, pb = w.heap.size + 1 := ⟨_, rfl⟩
  rw [← hpb] at hb0 ⊢
  obtain ⟨fb, hfb⟩ : ∃ fb, fb = w.heap.size := ⟨_, rfl⟩
  rw [← hfb] at hf0 hbe0 hpb ⊢
  have hne : fb ≠ pb := by omega
  have hne' : pb ≠ fb := by omega
  have HPb := Lib.hid hpb
  have HFb := Lib.hid hfb
  have Hbe0 := Lib.hid hbe0
  clear hpb hfb hbe0 hsz0 hW
  obtain ⟨q, hq⟩ : ∃ q, n = q + 1 := ⟨n - 1, by omega⟩
  have hq2 : ((n : Int) - 1).toNat = q := by omega
  have hq3 : (n : Int) - 1 < n := by omega
  have hq4 : 0 ≤ (n : Int) - 1 := by omega
  have hq23 : 23 ≤ q := by omega
  have hn0 : 0 < n := by omega
  have hn1 : 1 < n := by omega
  have hqn : q < n := by omega
  have h1n : (1 : Int) ≤ (n : Int) := by omega
  have hi1 : (1 : Int) < (n : Int) := by omega
  have hz0 : ¬ n = 0 := by omega
  have hz1 : ¬ n ≤ 1 := by omega
  have hzq : ¬ n ≤ q := by omega
  have hwp : IntKind.i64.wrap ((n : Int) - 1) = (n : Int) - 1 := IntWalk.i64_in _ (by omega)
  have HQ := Lib.hid hq
  have v0 : W.cell? ⟨fb, 0, none⟩ = some (.int .i64 kind) := hf0.cell 0
  have c0 : W.cell? ⟨pb, 0, none⟩ = some (.int .u8 0) := by have := hb0.cell 0; simpa [show 0 < n by omega] using this
  have c1 : W.cell? ⟨pb, 1, none⟩ = some (.int .u8 0) := by have := hb0.cell 1; simpa [show 1 < n by omega] using this
  have cq : W.cell? ⟨pb, q, none⟩ = some (.int .u8 0) := by have := hb0.cell q; simpa [show q < n by omega] using this
  have f0 : W.frozen? ⟨pb, 0, none⟩ = false := hb0.free 0
  have f1 : W.frozen? ⟨pb, 1, none⟩ = false := hb0.free 1
  have fq : W.frozen? ⟨pb, q, none⟩ = false := hb0.free q
  have sw0 : ∀ (X : World) u v, (X.setCell ⟨pb, 1, none⟩ u).setCell ⟨pb, 0, none⟩ v = (X.setCell ⟨pb, 0, none⟩ v).setCell ⟨pb, 1, none⟩ u := fun X u v => setCell_swap X pb 1 0 u v (by omega)
  have sw1 : ∀ (X : World) u v, (X.setCell ⟨pb, q, none⟩ u).setCell ⟨pb, 0, none⟩ v = (X.setCell ⟨pb, 0, none⟩ v).setCell ⟨pb, q, none⟩ u := fun X u v => setCell_swap X pb q 0 u v (by omega)
  have sw2 : ∀ (X : World) u v, (X.setCell ⟨pb, q, none⟩ u).setCell ⟨pb, 1, none⟩ v = (X.setCell ⟨pb, 1, none⟩ v).setCell ⟨pb, q, none⟩ u := fun X u v => setCell_swap X pb q 1 u v (by omega)
  have vv : ∀ (X : World) (i : Nat) u, (X.setCell ⟨pb, i, none⟩ u).cell? ⟨fb, 0, none⟩ = X.cell? ⟨fb, 0, none⟩ := fun X i u => World.cell?_setCell_other X _ _ u (fun e => hne (congrArg Addr.block e).symm)
  have x01 : ∀ (X : World) u, (X.setCell ⟨pb, 0, none⟩ u).cell? ⟨pb, 1, none⟩ = X.cell? ⟨pb, 1, none⟩ := fun X u => World.cell?_setCell_other X _ _ u (fun e => absurd (congrArg Addr.off e) (by first | (simp; done) | (simp; omega)))
  have x0q : ∀ (X : World) u, (X.setCell ⟨pb, 0, none⟩ u).cell? ⟨pb, q, none⟩ = X.cell? ⟨pb, q, none⟩ := fun X u => World.cell?_setCell_other X _ _ u (fun e => absurd (congrArg Addr.off e) (by first | (simp; done) | (simp; omega)))
  have x10 : ∀ (X : World) u, (X.setCell ⟨pb, 1, none⟩ u).cell? ⟨pb, 0, none⟩ = X.cell? ⟨pb, 0, none⟩ := fun X u => World.cell?_setCell_other X _ _ u (fun e => absurd (congrArg Addr.off e) (by first | (simp; done) | (simp; omega)))
  have x1q : ∀ (X : World) u, (X.setCell ⟨pb, 1, none⟩ u).cell? ⟨pb, q, none⟩ = X.cell? ⟨pb, q, none⟩ := fun X u => World.cell?_setCell_other X _ _ u (fun e => absurd (congrArg Addr.off e) (by first | (simp; done) | (simp; omega)))
  have xq0 : ∀ (X : World) u, (X.setCell ⟨pb, q, none⟩ u).cell? ⟨pb, 0, none⟩ = X.cell? ⟨pb, 0, none⟩ := fun X u => World.cell?_setCell_other X _ _ u (fun e => absurd (congrArg Addr.off e) (by first | (simp; done) | (simp; omega)))
  have xq1 : ∀ (X : World) u, (X.setCell ⟨pb, q, none⟩ u).cell? ⟨pb, 1, none⟩ = X.cell? ⟨pb, 1, none⟩ := fun X u => World.cell?_setCell_other X _ _ u (fun e => absurd (congrArg Addr.off e) (by first | (simp; done) | (simp; omega)))
  have Hf0 := Lib.hid hf0
  have Hb0 := Lib.hid hb0
  clear hf0 hb0 hq
  go_wp2_with fail
  refine wp_region_states (by kernel_rfl) (frame6 fb pb n q kind _ _ _ _ _ _ _ _ _ _ _ _ _ _ _ _ _ _ _ _ _ _ _ _ _ _ _ _ _ _ _ _ _ _ _ _ _ _ _ _ _ _ _ _ _ _ _ _ _ _ _ _ _ _ _ _ _ _ _ _ _ _ _ _ _ _ _ _ _ _ _ _ _ _ _ _ _ _ _ _ _ _ _ _ _ _ _ _ _ _ _ _ _ _ _ _) (world6 pb q kind W.drew) (fun L => L.size = 14) #[false, false, false, false, false, false, false, false, false, false, false, false, false, false] (by rfl) (by rfl) (by rfl) (by rfl) ?hstep ?hend
  case hend =>
    intro L hL hr
    obtain ⟨l0, l1, l2, l3, l4, l5, l6, l7, l8, l9, l10, l11, l12, l13, rfl⟩ := arr14 L hL
    clear hL
    have q0 := unready0 hr 0 _ rfl (by simp [Region.binds])
    simp at q0
    subst q0
    have q1 := unready0 hr 1 _ rfl (by simp [Region.binds])
    simp at q1
    subst q1
    have q2 := unready0 hr 2 _ rfl (by simp [Region.binds])
    simp at q2
    subst q2
    have q3 := unready0 hr 3 _ rfl (by simp [Region.binds])
    simp at q3
    subst q3
    have q4 := unready0 hr 4 _ rfl (by simp [Region.binds])
    simp at q4
    subst q4
    have q5 := unready0 hr 5 _ rfl (by simp [Region.binds])
    simp at q5
    subst q5
    have q6 := unready0 hr 6 _ rfl (by simp [Region.binds])
    simp at q6
    subst q6
    have q7 := unready0 hr 7 _ rfl (by simp [Region.binds])
    simp at q7
    subst q7
    have q8 := unready0 hr 8 _ rfl (by simp [Region.binds])
    simp at q8
    subst q8
    have q9 := unready0 hr 9 _ rfl (by simp [Region.binds])
    simp at q9
    subst q9
    have q10 := unready0 hr 10 _ rfl (by simp [Region.binds])
    simp at q10
    subst q10
    have q11 := unready0 hr 11 _ rfl (by simp [Region.binds])
    simp at q11
    subst q11
    have q12 := unready0 hr 12 _ rfl (by simp [Region.binds])
    simp at q12
    subst q12
    have q13 := unready0 hr 13 _ rfl (by simp [Region.binds])
    simp at q13
    subst q13
    clear hr
    simp only [frame6, world6]
    simp
    rename_i K hKK
    refine hKK _ _ ?_
    clear hKK
    clear v0 c0 c1 cq f0 f1 fq sw0 sw1 sw2 vv x01 x0q x10 x1q xq0 xq1
    have hb6 := (((Hb0.out.drew.set 0 (.int .u8 165)).set 1 (.int .u8 (kind % 256))).set q (.int .u8 90)).of (c' := ((packA n kind).map (Value.int .u8)).toArray) (by
      have e : n - 1 = q := by have := HQ.out; omega
      apply Array.toList_inj.1
      simp [packA, List.map_set, e])
    have hf6 := ((Hf0.out.drew.setOther (a := ⟨pb, 0, none⟩) hne' (.int .u8 165)).setOther (a := ⟨pb, 1, none⟩) hne' (.int .u8 (kind % 256))).setOther (a := ⟨pb, q, none⟩) hne' (.int .u8 90)
    have hbe6 := ((Hbe0.out.drew.setCell (p := ⟨pb, 0, none⟩) (by have := HPb.out; show fb ≤ pb; omega) (.int .u8 165)).setCell (p := ⟨pb, 1, none⟩) (by have := HPb.out; show fb ≤ pb; omega) (.int .u8 (kind % 256))).setCell (p := ⟨pb, q, none⟩) (by have := HPb.out; show fb ≤ pb; omega) (.int .u8 90)
    generalize ((W.drew.setCell ⟨pb, 0, none⟩ (.int .u8 165)).setCell ⟨pb, 1, none⟩ (.int .u8 (kind % 256))).setCell ⟨pb, q, none⟩ (.int .u8 90) = X at hb6 hf6 hbe6 ⊢
    have hlA : (packA n kind).length = n := by simp [packA]
    obtain ⟨bA, hbA⟩ : ∃ bA, bA = packA n kind := ⟨_, rfl⟩
    rw [← hbA] at hb6 hlA
    have HbA := Lib.hid hbA
    have Hb6 := Lib.hid hb6
    have Hf6 := Lib.hid hf6
    have Hbe6 := Lib.hid hbe6
    clear hbA hb6 hf6 hbe6 Hf0 Hb0 Hbe0
    go_wp2_with fail
    refine wp_still_tail 5 (by kernel_rfl) (by kernel_rfl) ?_
    intro W1 hW1
    have Hb7 := Lib.hid (show Blk W1 pb (bA.map (Value.int .u8)).toArray 5 by subst hW1; exact Hb6.out.drew)
    have Hf7 := Lib.hid (show Blk W1 fb #[.int .i64 kind, .int .i64 lba, .int .i64 seq, .slice a m c] 46 by subst hW1; exact Hf6.out.drew)
    have Hbe7 := Lib.hid (show Below fb w W1 by subst hW1; exact Hbe6.out.drew)
    have v1 : W1.cell? ⟨fb, 1, none⟩ = some (.int .i64 lba) := Hf7.out.cell 1
    clear hW1 Hb6 Hf6 Hbe6
    have hs6 : (6 : Int) ≤ (n : Int) := by omega
    have hs14 : (14 : Int) ≤ (n : Int) := by omega
    have hs16 : (16 : Int) ≤ (n : Int) := by omega
    have hs20 : (20 : Int) ≤ (n : Int) := by omega
    have hn2 : ¬ n = 2 := by omega
    have hn6 : ¬ n = 6 := by omega
    have hn14 : ¬ n = 14 := by omega
    have hn16 : ¬ n = 16 := by omega
    have hn20 : ¬ n = 20 := by omega
    have hwl : IntKind.u64.wrap lba = lba := IntWalk.u64_in _ (by omega)
    simp only [List.take_succ_cons, List.take_zero, List.drop_succ_cons, List.drop_zero]
    iterate 5 still_step
    refine wpStill_nil ?_
    go_wp2_with fail
    have HlA := Lib.hid hlA
    clear hlA
    refine (frame_put 2 4 pb (n - 2) bA lba W1 (by omega) (by rw [HlA.out]; omega) Hb7.out).mono ?_
    rintro e X7 ⟨rfl, hb, hk⟩
    have hbe := Hbe7.out.trans (hk.below fb (Nat.le_of_lt Hf7.out.lt) (fun k e => by have := HPb.out; omega))
    have hf := hk.blk Hf7.out hne
    obtain ⟨bB, hbB⟩ : ∃ b, b = splice bA 2 (leDig 4 lba) := ⟨_, rfl⟩
    have hl := length_splice bA 2 (leDig 4 lba) (by rw [HlA.out, leDig_length]; omega)
    rw [← hbB] at hb hl
    have HlB := Lib.hid (hl.trans HlA.out)
    have HbB := Lib.hid hbB
    have Hc7 := Lib.hid hb
    have Hg7 := Lib.hid hf
    have Hd7 := Lib.hid hbe
    clear hb hf hbe hk hl hbB Hb7 Hf7 Hbe7
    clear v1 hwl
    have hws : IntKind.u64.wrap seq = seq := IntWalk.u64_in _ (by omega)
    go_wp2_with fail
    refine wp_still_tail 5 (by kernel_rfl) (by kernel_rfl) ?_
    intro W8 hW
    have Hb8 := Lib.hid (show Blk W8 pb (bB.map (Value.int .u8)).toArray 5 by subst hW; exact Hc7.out.drew)
    have Hf8 := Lib.hid (show Blk W8 fb #[.int .i64 kind, .int .i64 lba, .int .i64 seq, .slice a m c] 46 by subst hW; exact Hg7.out.drew)
    have Hbe8 := Lib.hid (show Below fb w W8 by subst hW; exact Hd7.out.drew)
    have v1 : W8.cell? ⟨fb, 2, none⟩ = some (.int .i64 seq) := Hf8.out.cell 2
    clear hW Hc7 Hg7 Hd7
    simp only [List.take_succ_cons, List.take_zero, List.drop_succ_cons, List.drop_zero]
    iterate 5 still_step
    refine wpStill_nil ?_
    go_wp2_with fail
    refine (frame_put 6 8 pb (n - 6) bB seq W8 (by omega) (by rw [HlB.out]; omega) Hb8.out).mono ?_
    rintro e X8 ⟨rfl, hb, hk⟩
    have hbe := Hbe8.out.trans (hk.below fb (Nat.le_of_lt Hf8.out.lt) (fun k e => by have := HPb.out; omega))
    have hf := hk.blk Hf8.out hne
    obtain ⟨bC, hbC⟩ : ∃ b, b = splice bB 6 (leDig 8 seq) := ⟨_, rfl⟩
    have hl := length_splice bB 6 (leDig 8 seq) (by rw [HlB.out, leDig_length]; omega)
    rw [← hbC] at hb hl
    have HlC := Lib.hid (hl.trans HlB.out)
    have HbC := Lib.hid hbC
    have Hc8 := Lib.hid hb
    have Hg8 := Lib.hid hf
    have Hd8 := Lib.hid hbe
    clear hb hf hbe hk hl hbC Hb8 Hf8 Hbe8
    clear v1 hws
    have hwm : IntKind.u64.wrap (m : Int) = (m : Int) := IntWalk.u64_in _ (by omega)
    go_wp2_with fail
    refine wp_still_tail 6 (by kernel_rfl) (by kernel_rfl) ?_
    intro W9 hW
    have Hb9 := Lib.hid (show Blk W9 pb (bC.map (Value.int .u8)).toArray 5 by subst hW; exact Hc8.out.drew)
    have Hf9 := Lib.hid (show Blk W9 fb #[.int .i64 kind, .int .i64 lba, .int .i64 seq, .slice a m c] 46 by subst hW; exact Hg8.out.drew)
    have Hbe9 := Lib.hid (show Below fb w W9 by subst hW; exact Hd8.out.drew)
    have v1 : W9.cell? ⟨fb, 3, none⟩ = some (.slice a m c) := Hf9.out.cell 3
    clear hW Hc8 Hg8 Hd8
    simp only [List.take_succ_cons, List.take_zero, List.drop_succ_cons, List.drop_zero]
    iterate 6 still_step
    refine wpStill_nil ?_
    go_wp2_with fail
    refine (frame_put 14 2 pb (n - 14) bC (m : Int) W9 (by omega) (by rw [HlC.out]; omega) Hb9.out).mono ?_
    rintro e X9 ⟨rfl, hb, hk⟩
    have hbe := Hbe9.out.trans (hk.below fb (Nat.le_of_lt Hf9.out.lt) (fun k e => by have := HPb.out; omega))
    have hf := hk.blk Hf9.out hne
    obtain ⟨bD, hbD⟩ : ∃ b, b = splice bC 14 (leDig 2 (m : Int)) := ⟨_, rfl⟩
    have hl := length_splice bC 14 (leDig 2 (m : Int)) (by rw [HlC.out, leDig_length]; omega)
    rw [← hbD] at hb hl
    have HlD := Lib.hid (hl.trans HlC.out)
    have HbD := Lib.hid hbD
    have Hc9 := Lib.hid hb
    have Hg9 := Lib.hid hf
    have Hd9 := Lib.hid hbe
    clear hb hf hbe hk hl hbD Hb9 Hf9 Hbe9
    clear v1 hwm
    go_wp2_with fail
    refine wp_still_tail 4 (by kernel_rfl) (by kernel_rfl) ?_
    intro W10 hW
    have Hb10 := Lib.hid (show Blk W10 pb (bD.map (Value.int .u8)).toArray 5 by subst hW; exact Hc9.out.drew)
    have Hf10 := Lib.hid (show Blk W10 fb #[.int .i64 kind, .int .i64 lba, .int .i64 seq, .slice a m c] 46 by subst hW; exact Hg9.out.drew)
    have Hbe10 := Lib.hid (show Below fb w W10 by subst hW; exact Hd9.out.drew)
    have v1 : W10.cell? ⟨fb, 3, none⟩ = some (.slice a m c) := Hf10.out.cell 3
    clear hW Hc9 Hg9 Hd9
    simp only [List.take_succ_cons, List.take_zero, List.drop_succ_cons, List.drop_zero]
    iterate 4 still_step
    refine wpStill_nil ?_
    have hcl : (data.map (Value.int .u8)).length = m := by rw [List.length_map, Hm.out]
    have Hcl := Lib.hid hcl
    have hcur : (bD.map (Value.int .u8)).length = n := by rw [List.length_map, HlD.out]
    have hsrc : 0 < m → ∃ ad, a = some ad ∧ ∀ j v, (data.map (Value.int .u8))[j]? = some v → W10.cell? (ad.add j) = some v := by
      intro hpos
      rcases Hr.out W10 (by rw [← HFb.out]; exact Hbe10.out) with h0 | ⟨b, off, rfl, hc⟩
      · rw [← Hm.out] at h0; omega
      · refine ⟨_, rfl, fun j v hj => ?_⟩
        rw [List.getElem?_map, Option.map_eq_some_iff] at hj
        obtain ⟨x, hx, rfl⟩ := hj
        have hjl : j < data.length := (List.getElem?_eq_some_iff.1 hx).1
        have := hc j hjl
        rw [WideShapes.add_plain, this]
        simp [List.getD, hx]
    have Hcur := Lib.hid hcur
    have Hsrc := Lib.hid hsrc
    clear hcl hcur hsrc v1
    with_reducible refine wpList_copy_keep rfl (.tmp 85) (.tmp 87) 33 33 rfl 5 Tryz.underlying33 (by kernel_rfl) _ _ _ _ _ _ rfl rfl pb 20 (bD.map (Value.int .u8)) 5 Hb10.out (data.map (Value.int .u8)) ?c1 ?c2 ?c3 (by simp [Value.oneCell']) ?_
    case c1 => rw [Hcl.out]; exact (Nat.min_eq_left (by omega)).symm
    case c2 => intro hpos; rw [Hcl.out] at hpos; exact ⟨rfl, Hsrc.out hpos⟩
    case c3 => rw [Hcl.out, Hcur.out]; omega
    intro X10 hb hk
    have hbe := Hbe10.out.trans (hk.below fb (Nat.le_of_lt Hf10.out.lt) (fun k e => by have := HPb.out; omega))
    have hf := hk.blk Hf10.out hne
    obtain ⟨bE, hbE⟩ : ∃ b, b = splice bD 20 data := ⟨_, rfl⟩
    have hl := length_splice bD 20 data (by rw [HlD.out, ← Hm.out]; omega)
    rw [← map_splice, ← hbE] at hb
    rw [← hbE] at hl
    have HlE := Lib.hid (hl.trans HlD.out)
    have HbE := Lib.hid hbE
    have Hc10 := Lib.hid hb
    have Hg10 := Lib.hid hf
    have Hd10 := Lib.hid hbe
    clear hb hf hbe hk hl hbE Hb10 Hf10 Hbe10
    simp only [Hcl.out]
    clear Hcl Hcur Hsrc
    go_wp2_with fail
    refine wp_still_tail 5 (by kernel_rfl) (by kernel_rfl) ?_
    intro W11 hW
    have Hb11 := Lib.hid (show Blk W11 pb (bE.map (Value.int .u8)).toArray 5 by subst hW; exact Hc10.out.drew)
    have Hf11 := Lib.hid (show Blk W11 fb #[.int .i64 kind, .int .i64 lba, .int .i64 seq, .slice a m c] 46 by subst hW; exact Hg10.out.drew)
    have Hbe11 := Lib.hid (show Below fb w W11 by subst hW; exact Hd10.out.drew)
    clear hW Hc10 Hg10 Hd10
    have hbytes : ∀ x ∈ bE, 0 ≤ x ∧ x ≤ 255 := by
      rw [HbE.out, HbD.out, HbC.out, HbB.out, HbA.out]
      exact packC_byte n kind lba seq m data Hdat.out
    have hcrc := code_crc pb 0 n n bE W11 HlE.out hbytes (by omega) (fun i hi => by
      rw [Nat.zero_add, Hb11.out.cell i]
      have hi2 : i < bE.length := by rw [HlE.out]; exact hi
      simp [List.getD, hi2])
    obtain ⟨cc, hcc⟩ : ∃ x, x = crcOf bE := ⟨_, rfl⟩
    have c0 : 0 ≤ cc := by rw [hcc]; unfold crcOf; exact bits_lo_u32 _ _ _
    have c1 : cc ≤ 4294967295 := by rw [hcc]; unfold crcOf; exact bits_hi_u32 _ _ _
    rw [← hcc] at hcrc
    have Hcrc := Lib.hid hcrc
    have Hcc := Lib.hid hcc
    have hwc : IntKind.u64.wrap cc = cc := IntWalk.u64_in _ (by omega)
    clear hcrc hcc hbytes
    simp only [List.take_succ_cons, List.take_zero, List.drop_succ_cons, List.drop_zero]
    iterate 3 still_step
    still_call (Hcrc.out.mono fun e w'' h => ⟨h.1, h.2.symm⟩)
    iterate 1 still_step
    refine wpStill_nil ?_
    go_wp2_with fail
    refine (frame_put 16 4 pb (n - 16) bE cc W11 (by omega) (by rw [HlE.out]; omega) Hb11.out).mono ?_
    rintro e X11 ⟨rfl, hb, hk⟩
    have hbe := Hbe11.out.trans (hk.below fb (Nat.le_of_lt Hf11.out.lt) (fun k e => by have := HPb.out; omega))
    have Hb12 := Lib.hid hb
    have Hbe12 := Lib.hid hbe
    clear hb hk hbe
    go_wp2
    go_ret2
    refine ⟨pb, by have := HPb.out; have := HFb.out; omega, rfl, ?_, by rw [← HFb.out]; exact Hbe12.out⟩
    have e : splice bE 16 (leDig 4 cc) = packOf n kind lba seq data := by
      rw [Hcc.out, HbE.out, HbD.out, HbC.out, HbB.out, HbA.out, Hm.out]
      rfl
    rw [← e]
    exact Hb12.out
  case hstep =>
    intro L hL i hi
    obtain ⟨l0, l1, l2, l3, l4, l5, l6, l7, l8, l9, l10, l11, l12, l13, rfl⟩ := arr14 L hL
    rw [mem_ready] at hi
    obtain ⟨h0, o, ho, hd⟩ := hi
    have hi14 : i < 14 := (Array.getElem?_eq_some_iff.1 ho).1
    have hcases : i = 0 ∨ i = 1 ∨ i = 2 ∨ i = 3 ∨ i = 4 ∨ i = 5 ∨ i = 6 ∨ i = 7 ∨ i = 8 ∨ i = 9 ∨ i = 10 ∨ i = 11 ∨ i = 12 ∨ i = 13 := by omega
    rcases hcases with rfl | rfl | rfl | rfl | rfl | rfl | rfl | rfl | rfl | rfl | rfl | rfl | rfl | rfl
    all_goals
      obtain rfl := Option.some.inj ho
      simp [Region.binds] at h0 hd
      repeat (obtain ⟨hx1, hd⟩ := hd; try subst hx1)
      (try subst h0)
      (try subst hd)
      refine ⟨by simp, fun K hK => ?_⟩
      refine wpOp_step rfl ?_
      intro K' hK'
      (try cases l9) <;> (try cases l11) <;> (try cases l13)
      all_goals (simp only [frame6, world6] at hK ⊢; simp at hK; go_simp)
      all_goals first | exact hK' _ _ hK | (simp only [sw0, sw1, sw2]; exact hK' _ _ hK) | skip
    all_goals first | (simp [hn0, hn1, hqn, hwp, hq2, hz0, hz1, hzq, hi1, hq3, hq4, h1n]; exact hK' _ _ hK) | (simp [go_sem, Oper.upon, execOp, Act.eval, hn0, hn1, hqn, hwp, hq2, hz0, hz1, hzq, hi1, hq3, hq4, h1n]; first | exact hK' _ _ hK)
end Go.Proofs.YtdkpbobglogmoaaGreat
namespace Go.Proofs.YtdkpbobglogmoaaGreat
open Go.RowKit
@[reducible] def frameO (fb pg n c : Nat) (kind lba seq : Int) (t0 t1 t2 t3 t4 t5 t6 t7 t8 t9 t10 t11 t12 t13 t14 t15 t16 t17 t18 t19 t20 t21 t22 t23 t24 t25 t26 t27 t28 t29 t30 t31 t32 t33 t34 t35 t36 t37 t38 t39 t40 t41 t42 t43 t44 t45 t46 t47 t48 t49 t50 t51 t52 t53 t54 t55 t56 t57 t58 t59 t60 t61 t62 t63 t64 t65 t66 t67 t68 t69 t70 t71 t72 t73 t74 t75 t76 t77 t78 t79 t80 t81 t82 t83 t84 t85 t86 : Value) (L : Array Bool) : Act :=
  ⟨#[t0, t1, t2, t3, t4, (if L.getD 13 false = true then (.pointer (some ⟨fb, 0, none⟩)) else t5), t6, t7, t8, t9, t10, t11, t12, t13, t14, t15, t16, t17, t18, t19, t20, t21, t22, t23, t24, t25, t26, t27, t28, t29, t30, t31, t32, t33, t34, t35, t36, t37, t38, t39, t40, t41, (if L.getD 0 false = true then (.slice (some ⟨pg, 0, none⟩) n c) else t42), (if L.getD 1 false = true then (.pointer (some ⟨pg, 1, none⟩)) else t43), (if L.getD 2 false = true then (.int .u8 kind) else t44), (if L.getD 3 false = true then (.int .i64 kind) else t45), (if L.getD 4 false = true then (.slice (some ⟨pg, 0, none⟩) n c) else t46), (if L.getD 5 false = true then (.slice (some ⟨pg, 2, none⟩) 4 (c - 2)) else t47), (if L.getD 6 false = true then (.int .u64 lba) else t48), (if L.getD 7 false = true then (.int .i64 lba) else t49), (if L.getD 8 false = true then (.slice (some ⟨pg, 0, none⟩) n c) else t50), (if L.getD 9 false = true then (.slice (some ⟨pg, 6, none⟩) 8 (c - 6)) else t51), (if L.getD 10 false = true then (.int .u64 seq) else t52), (if L.getD 11 false = true then (.int .i64 seq) else t53), (if L.getD 12 false = true then (.agg #[.int .i64 kind, .int .i64 lba, .int .i64 seq, .slice none 0 0]) else t54), t55, t56, t57, t58, t59, t60, t61, t62, t63, t64, t65, t66, t67, t68, t69, t70, t71, t72, t73, t74, t75, t76, t77, t78, t79, t80, t81, t82, t83, t84, t85, t86], []⟩
@[reducible] def worldO (fb : Nat) (kind lba seq : Int) (V : World) (L : Array Bool) : World :=
  if L.getD 14 false = true then V.alloc (.cells #[.int .i64 kind, .int .i64 lba, .int .i64 seq, .slice none 0 0] 46) else if L.getD 13 false = true then V.alloc (.cells #[.int .i64 0, .int .i64 0, .int .i64 0, .slice none 0 0] 46) else V
theorem arr15 (L : Array Bool) (h : L.size = 15) : ∃ l0 l1 l2 l3 l4 l5 l6 l7 l8 l9 l10 l11 l12 l13 l14 : Bool, L = #[l0, l1, l2, l3, l4, l5, l6, l7, l8, l9, l10, l11, l12, l13, l14] := by
  obtain ⟨l⟩ := L
  match l, h with
  | [l0, l1, l2, l3, l4, l5, l6, l7, l8, l9, l10, l11, l12, l13, l14], _ => exact ⟨l0, l1, l2, l3, l4, l5, l6, l7, l8, l9, l10, l11, l12, l13, l14, rfl⟩
end Go.Proofs.YtdkpbobglogmoaaGreat
namespace Go.Proofs.YtdkpbobglogmoaaGreat
open Go.RowKit Go.WideShapes
structure Page (n : Nat) (ys : List Int) (kind lba seq : Int) (m : Nat) (data : List Int) : Prop where
  len : ys.length = n
  byte : ∀ x ∈ ys, 0 ≤ x ∧ x ≤ 255
  ok : packOk n kind lba seq = true
  fit : m + 21 ≤ n
  y0 : ys.getD 0 0 = 165
  y1 : ys.getD 1 0 = kind
  yn : ys.getD (n - 1) 0 = 90
  nlba : leNum ((ys.drop 2).take 4) = lba
  nseq : leNum ((ys.drop 6).take 8) = seq
  nlong : leNum ((ys.drop 14).take 2) = m
  body : (ys.drop 20).take m = data
  pack : packOf n kind lba seq data = ys
theorem Page.count {n : Nat} {ys : List Int} {kind lba seq : Int} {m : Nat} {data : List Int} (h : Page n ys kind lba seq m data) : ¬ ((Lib.countByte (Lib.bytesOf ys) 255 : Nat) : Int) = n := by
  intro e
  have hp : 0 < ys.length := by have := h.fit; have := h.len; omega
  have hc : (Lib.bytesOf ys).count 255 = (Lib.bytesOf ys).length := by
    have : Lib.countByte (Lib.bytesOf ys) 255 = n := by omega
    rw [show (Lib.bytesOf ys).length = n by unfold Lib.bytesOf; simp [h.len]]
    exact this
  have hall := List.count_eq_length.1 hc
  cases ys with
  | nil => simp at hp
  | cons y l =>
    have hy := h.y0
    simp [List.getD] at hy
    subst hy
    have := hall (UInt8.ofNat (165 : Int).toNat) (by simp [Lib.bytesOf])
    revert this
    decide
theorem frame_open_page (pg n c : Nat) (ys : List Int) (kind lba seq : Int) (m : Nat) (data : List Int) (w : World) (hp : Page n ys kind lba seq m data) (hnc : n ≤ c) (hlt : pg < w.heap.size)
    (hc : ∀ i, i < n → w.cell? ⟨pg, i, none⟩ = some (.int .u8 (ys.getD i 0))) :
    Calls Tryz.prog 42 #[.slice (some ⟨pg, 0, none⟩) n c] w fun e w' =>
      ∃ g cap, w.heap.size ≤ g ∧ e = .returned (.tuple #[.agg #[.int .i64 kind, .int .i64 lba, .int .i64 seq, .slice (some ⟨g, 0, none⟩) m cap], .int .i64 2]) ∧ (∃ k, w'.heap[g]? = some (.cells ((data ++ List.replicate k 0).map (Value.int .u8)).toArray 5 (0, 0))) ∧ Below w.heap.size w w' := by
  have hok := hp.ok
  simp only [packOk, Bool.and_eq_true, decide_eq_true_eq] at hok
  obtain ⟨⟨⟨⟨⟨⟨⟨n0, n1⟩, k0⟩, k1⟩, l0⟩, l1⟩, s0⟩, s1⟩ := hok
  have hcnt := hp.count
  have hfit := hp.fit
  have Hp := Lib.hid hp
  have Hc := Lib.hid hc
  have d0 : decide (0 < n) = true := decide_eq_true (by omega)
  have d1 : decide ((n : Int) < 24) = false := decide_eq_false (by omega)
  have d2 : decide (4096 < (n : Int)) = false := decide_eq_false (by omega)
  obtain ⟨cn, hcn⟩ : ∃ x : Int, x = ((Lib.countByte (Lib.bytesOf ys) 255 : Nat) : Int) := ⟨_, rfl⟩
  rw [← hcn] at hcnt
  have d3 : decide (cn = (n : Int)) = false := decide_eq_false hcnt
  have Hcn := Lib.hid hcn
  have Hlt := Lib.hid hlt
  have d4 : (cn == (n : Int)) = false := beq_eq_false_iff_ne.2 hcnt
  clear hp hc hlt hcn
  go_enter Tryz.func42, Tryz.ntmps42
  go_wp2_with fail
  have hr0 := (Blk.new w #[.int .i64 0, .int .i64 0, .int .i64 0, .slice none 0 0] 46).alloc (.cells #[.int .u8 255] 5)
  have hs0 : ((w.alloc (.cells #[.int .i64 0, .int .i64 0, .int .i64 0, .slice none 0 0] 46)).alloc (.cells #[.int .u8 255] 5)).cell? ⟨w.heap.size + 1, 0, none⟩ = some (.int .u8 255) := by
    simp
  have hbe0 : Below w.heap.size w ((w.alloc (.cells #[.int .i64 0, .int .i64 0, .int .i64 0, .slice none 0 0] 46)).alloc (.cells #[.int .u8 255] 5)) := ((Below.refl _ _).alloc (Nat.le_refl _) _).alloc (by simp) _
  generalize (w.alloc (.cells #[.int .i64 0, .int .i64 0, .int .i64 0, .slice none 0 0] 46)).alloc (.cells #[.int .u8 255] 5) = W0 at *
  obtain ⟨rb, hrb⟩ : ∃ rb, rb = w.heap.size := ⟨_, rfl⟩
  rw [← hrb] at hr0 hs0 hbe0 ⊢
  have Hrb := Lib.hid hrb
  have hcp : ∀ i, i < n → W0.cell? ⟨pg, i, none⟩ = some (.int .u8 (ys.getD i 0)) := fun i hi => by
    rw [hbe0.cell (p := ⟨pg, i, none⟩) (by show pg < rb; rw [hrb]; exact Hlt.out)]
    exact Hc.out i hi
  have hcount := bytes_count pg 0 n c (rb + 1) 0 1 ys 255 W0 Hp.out.len (fun i hi => by rw [Nat.zero_add]; exact hcp i hi) hs0
  have e255 : ((255 : Int).toNat.toUInt8) = 255 := by decide
  rw [e255, ← Hcn.out] at hcount
  refine hcount.mono ?_
  rintro e w' ⟨rfl, rfl⟩
  have Hr0 := Lib.hid hr0
  have Hbe0 := Lib.hid hbe0
  obtain ⟨q, hq⟩ : ∃ q, n = q + 1 := ⟨n - 1, by omega⟩
  have hq2 : ((n : Int) - 1).toNat = q := by omega
  have hq3 : (n : Int) - 1 < n := by omega
  have hq4 : 0 ≤ (n : Int) - 1 := by omega
  have hq23 : 23 ≤ q := by omega
  have hn0 : 0 < n := by omega
  have hn1 : 1 < n := by omega
  have hqn : q < n := by omega
  have h1n : (1 : Int) ≤ (n : Int) := by omega
  have hi1 : (1 : Int) < (n : Int) := by omega
  have hz0 : ¬ n = 0 := by omega
  have hz1 : ¬ n ≤ 1 := by omega
  have hzq : ¬ n ≤ q := by omega
  have HQ := Lib.hid hq
  have v0 : w'.cell? ⟨pg, 0, none⟩ = some (.int .u8 165) := by rw [hcp 0 hn0, Hp.out.y0]
  have vq : w'.cell? ⟨pg, q, none⟩ = some (.int .u8 90) := by rw [hcp q hqn, show q = n - 1 by omega, Hp.out.yn]
  have Hcp := Lib.hid hcp
  clear hr0 hs0 hbe0 hrb hcp hcount e255 hq
  go_wp2_with fail
  have hs6 : (6 : Int) ≤ (c : Int) := by omega
  have hs14 : (14 : Int) ≤ (c : Int) := by omega
  have hn2 : ¬ c = 2 := by omega
  have hn6 : ¬ c = 6 := by omega
  obtain ⟨fb, hfb⟩ : ∃ fb, fb = w'.heap.size := ⟨_, rfl⟩
  have Hfb := Lib.hid hfb
  clear hfb
  have hwk : IntKind.i64.wrap kind = kind := IntWalk.i64_in _ (by omega)
  have hwl : IntKind.i64.wrap lba = lba := IntWalk.i64_in _ (by omega)
  have hws : IntKind.i64.wrap seq = seq := IntWalk.i64_in _ (by omega)
  have x1 : w'.cell? ⟨pg, 1, none⟩ = some (.int .u8 kind) := by rw [Hcp.out 1 hn1, Hp.out.y1]
  have hpgw : pg < w'.heap.size := by have := Hlt.out; have := Hrb.out; have := Hr0.out.lt; omega
  have x2 : (w'.alloc (.cells #[.int .i64 0, .int .i64 0, .int .i64 0, .slice none 0 0] 46)).cell? ⟨pg, 1, none⟩ = some (.int .u8 kind) := (World.cell?_alloc_lt _ _ _ hpgw).trans x1
  have hg : ∀ W : World, (W = w'.drew ∨ W = (w'.alloc (.cells #[.int .i64 0, .int .i64 0, .int .i64 0, .slice none 0 0] 46)).drew) → ∀ i, i < n → W.cell? ⟨pg, i, none⟩ = some (.int .u8 (ys.getD i 0)) := by
    rintro W (rfl | rfl) i hi
    · exact Hcp.out i hi
    · exact (World.cell?_alloc_lt _ _ _ hpgw).trans (Hcp.out i hi)
  have hg1 : ∀ W : World, (W = w'.drew ∨ W = (w'.alloc (.cells #[.int .i64 0, .int .i64 0, .int .i64 0, .slice none 0 0] 46)).drew) → Calls Tryz.prog 66 #[.slice (some ⟨pg, 2, none⟩) 4 (c - 2)] W fun e w1 => e = .returned (.int .u64 lba) ∧ W = w1 := fun W hW => by
    have h := frame_get pg 2 4 (c - 2) ((ys.drop 2).take 4) W (by omega) (by have := Hp.out.len; simp; omega) (fun x hx => Hp.out.byte x (List.mem_of_mem_drop (List.mem_of_mem_take hx))) (fun i hi => by
      rw [hg W hW (2 + i) (by omega)]
      have h2 : 2 + i < ys.length := by rw [Hp.out.len]; omega
      simp [List.getD, h2, hi, List.getElem?_drop])
    rw [Hp.out.nlba] at h
    exact h
  have hg2 : ∀ W : World, (W = w'.drew ∨ W = (w'.alloc (.cells #[.int .i64 0, .int .i64 0, .int .i64 0, .slice none 0 0] 46)).drew) → Calls Tryz.prog 66 #[.slice (some ⟨pg, 6, none⟩) 8 (c - 6)] W fun e w1 => e = .returned (.int .u64 seq) ∧ W = w1 := fun W hW => by
    have h := frame_get pg 6 8 (c - 6) ((ys.drop 6).take 8) W (by omega) (by have := Hp.out.len; simp; omega) (fun x hx => Hp.out.byte x (List.mem_of_mem_drop (List.mem_of_mem_take hx))) (fun i hi => by
      rw [hg W hW (6 + i) (by omega)]
      have h2 : 6 + i < ys.length := by rw [Hp.out.len]; omega
      simp [List.getD, h2, hi, List.getElem?_drop])
    rw [Hp.out.nseq] at h
    exact h
  have Hg1 := Lib.hid hg1
  have Hg2 := Lib.hid hg2
  have hfbb : Blk (w'.drew.alloc (.cells #[.int .i64 0, .int .i64 0, .int .i64 0, .slice none 0 0] 46)) fb #[.int .i64 0, .int .i64 0, .int .i64 0, .slice none 0 0] 46 := by
    have h := (Blk.new w'.drew #[.int .i64 0, .int .i64 0, .int .i64 0, .slice none 0 0] 46)
    rw [show w'.drew.heap.size = fb by rw [Hfb.out]; rfl] at h
    exact h
  have Hfbb := Lib.hid hfbb
  have hszd : w'.heap.size = fb := by rw [Hfb.out]
  clear hg hg1 hg2 hfbb
  refine wp_region_states (by kernel_rfl) (frameO fb pg n c kind lba seq _ _ _ _ _ _ _ _ _ _ _ _ _ _ _ _ _ _ _ _ _ _ _ _ _ _ _ _ _ _ _ _ _ _ _ _ _ _ _ _ _ _ _ _ _ _ _ _ _ _ _ _ _ _ _ _ _ _ _ _ _ _ _ _ _ _ _ _ _ _ _ _ _ _ _ _ _ _ _ _ _ _ _ _ _ _ _) (worldO fb kind lba seq w'.drew) (fun L => L.size = 15 ∧ (L.getD 14 false = true → ∀ j, j < 15 → L.getD j false = true)) #[false, false, false, false, false, false, false, false, false, false, false, false, false, false, false] (by rfl) (by rfl) (by rfl) ⟨rfl, fun h => by cases h⟩ ?hstep ?hend
  case hend =>
    rintro L ⟨hL, hG0⟩ hr
    clear hG0
    obtain ⟨l0, l1, l2, l3, l4, l5, l6, l7, l8, l9, l10, l11, l12, l13, l14, rfl⟩ := arr15 L hL
    clear hL
    have q0 := unready0 hr 0 _ rfl (by simp [Region.binds])
    simp at q0
    subst q0
    have q1 := unready0 hr 1 _ rfl (by simp [Region.binds])
    simp at q1
    subst q1
    have q2 := unready0 hr 2 _ rfl (by simp [Region.binds])
    simp at q2
    subst q2
    have q3 := unready0 hr 3 _ rfl (by simp [Region.binds])
    simp at q3
    subst q3
    have q4 := unready0 hr 4 _ rfl (by simp [Region.binds])
    simp at q4
    subst q4
    have q5 := unready0 hr 5 _ rfl (by simp [Region.binds])
    simp at q5
    subst q5
    have q6 := unready0 hr 6 _ rfl (by simp [Region.binds])
    simp at q6
    subst q6
    have q7 := unready0 hr 7 _ rfl (by simp [Region.binds])
    simp at q7
    subst q7
    have q8 := unready0 hr 8 _ rfl (by simp [Region.binds])
    simp at q8
    subst q8
    have q9 := unready0 hr 9 _ rfl (by simp [Region.binds])
    simp at q9
    subst q9
    have q10 := unready0 hr 10 _ rfl (by simp [Region.binds])
    simp at q10
    subst q10
    have q11 := unready0 hr 11 _ rfl (by simp [Region.binds])
    simp at q11
    subst q11
    have q12 := unready0 hr 12 _ rfl (by simp [Region.binds])
    simp at q12
    subst q12
    have q13 := unready0 hr 13 _ rfl (by simp [Region.binds])
    simp at q13
    subst q13
    have q14 := unready0 hr 14 _ rfl (by simp [Region.binds])
    simp at q14
    subst q14
    clear hr
    simp only [frameO, worldO]
    simp
    rename_i K hKK
    refine hKK _ _ ?_
    clear hKK
    have hne : rb ≠ fb := by have := Hr0.out.lt; have := Hfb.out; omega
    have hfB : rb ≤ fb := by have := Hr0.out.lt; have := Hfb.out; omega
    have hV4 : Blk (w'.drew.alloc (.cells #[.int .i64 kind, .int .i64 lba, .int .i64 seq, .slice none 0 0] 46)) fb #[.int .i64 kind, .int .i64 lba, .int .i64 seq, .slice none 0 0] 46 := by
      have h := (Blk.new w' #[.int .i64 kind, .int .i64 lba, .int .i64 seq, .slice none 0 0] 46)
      rw [← Hfb.out] at h
      exact h.drew
    have hV5 : Blk (w'.drew.alloc (.cells #[.int .i64 kind, .int .i64 lba, .int .i64 seq, .slice none 0 0] 46)) rb #[.int .i64 0, .int .i64 0, .int .i64 0, .slice none 0 0] 46 := (Hr0.out.alloc (.cells #[.int .i64 kind, .int .i64 lba, .int .i64 seq, .slice none 0 0] 46)).drew
    have hV6 : Below rb w (w'.drew.alloc (.cells #[.int .i64 kind, .int .i64 lba, .int .i64 seq, .slice none 0 0] 46)) := (Hbe0.out.alloc (Nat.le_of_lt Hr0.out.lt) _).drew
    generalize (w'.drew.alloc (.cells #[.int .i64 kind, .int .i64 lba, .int .i64 seq, .slice none 0 0] 46)) = V at hV4 hV5 hV6 ⊢
    have hpgr : pg < rb := by have := Hlt.out; have := Hrb.out; omega
    have Hf1 := Lib.hid hV4
    have Hr1 := Lib.hid hV5
    have Hbe1 := Lib.hid hV6
    have hcp : ∀ i, i < n → V.cell? ⟨pg, i, none⟩ = some (.int .u8 (ys.getD i 0)) := fun i hi => by
      rw [hV6.cell (p := ⟨pg, i, none⟩) hpgr]
      exact Hc.out i hi
    have Hcp1 := Lib.hid hcp
    clear hV4 hV5 hV6 hcp v0 vq Hcp Hr0 Hbe0 hwk hwl hws x1 x2 hpgw Hg1 Hg2 Hfbb hszd
    have hl2 : ((ys.drop 14).take 2).length = 2 := by have := Hp.out.len; simp; omega
    have hget := frame_get pg 14 2 (c - 14) ((ys.drop 14).take 2) V (by omega) hl2 (fun x hx => Hp.out.byte x (List.mem_of_mem_drop (List.mem_of_mem_take hx))) (fun i hi => by
      rw [Hcp1.out (14 + i) (by omega)]
      have h2 : 14 + i < ys.length := by rw [Hp.out.len]; omega
      simp [List.getD, h2, hi, List.getElem?_drop])
    rw [Hp.out.nlong] at hget
    have Hget := Lib.hid hget
    have hs16 : (16 : Int) ≤ (c : Int) := by omega
    have hn14 : ¬ c = 14 := by omega
    have hn20 : ¬ c = 20 := by omega
    have hn20' : ¬ c ≤ 20 := by omega
    have hwm : IntKind.i64.wrap (m : Int) = (m : Int) := IntWalk.i64_in _ (by omega)
    have hwb : IntKind.i64.wrap ((n : Int) - 20) = (n : Int) - 20 := IntWalk.i64_in _ (by omega)
    have hwb2 : IntKind.i64.wrap ((n : Int) - 20 - 1) = (n : Int) - 20 - 1 := IntWalk.i64_in _ (by omega)
    have hwa : IntKind.i64.wrap (20 + (m : Int)) = 20 + (m : Int) := IntWalk.i64_in _ (by omega)
    have hd21 : decide ((n : Int) - 20 - 1 < (m : Int)) = false := decide_eq_false (by omega)
    have hs20 : 20 + (m : Int) ≤ (c : Int) := by omega
    have ht20 : (20 + (m : Int)).toNat = 20 + m := by omega
    clear hl2 hget
    go_wp2_with fail
    refine (Hget.out).mono ?_
    rintro e X1 ⟨rfl, rfl⟩
    clear Hget
    go_wp2_with fail
    clear hs6 hs14 hn2 hn6 hs16 hn14 hn20 hn20' hwm hwb hwb2 hwa hd21 hs20 ht20
    have hml : data.length = m := by rw [← Hp.out.body]; have := Hp.out.len; simp; omega
    have Hml := Lib.hid hml
    have hdat : ∀ x ∈ data, 0 ≤ x ∧ x ≤ 255 := fun x hx => by
      rw [← Hp.out.body] at hx
      exact Hp.out.byte x (List.mem_of_mem_drop (List.mem_of_mem_take hx))
    have Hdat := Lib.hid hdat
    have hclone := fr_clone ⟨pg, 20, none⟩ m (c - 20) data V hml (by omega) (fun i hi => by
      rw [add_plain, Hcp1.out (20 + i) (by omega), ← Hp.out.body]
      have h2 : 20 + i < ys.length := by rw [Hp.out.len]; omega
      simp [List.getD, h2, hi, List.getElem?_drop])
    clear hml hdat
    refine hclone.mono ?_
    rintro e V2 ⟨g, cap, k, rfl, hgV, hcapM, hmk, hheap, hbel⟩
    clear hclone
    have hgV2 : g < V2.heap.size := (Array.getElem?_eq_some_iff.1 hheap).1
    have hK : Keep (fun _ => False) V V2 := Keep.ofBelow hbel (fun k h1 h2 => absurd h1 (by omega))
    have hf2 := hK.blk Hf1.out (fun h => h)
    have hr2 := hK.blk Hr1.out (fun h => h)
    have hb2 := Hbe1.out.trans (hbel.mono (Nat.le_of_lt Hr1.out.lt))
    have hgf : g ≠ fb := by have := Hf1.out.lt; omega
    have hgr : g ≠ rb := by have := Hr1.out.lt; omega
    have hgb : rb ≤ g := by have := Hr1.out.lt; omega
    have f0 : V2.cell? ⟨fb, 0, none⟩ = some (.int .i64 kind) := hf2.cell 0
    have f1 : V2.cell? ⟨fb, 1, none⟩ = some (.int .i64 lba) := hf2.cell 1
    have f2 : V2.cell? ⟨fb, 2, none⟩ = some (.int .i64 seq) := hf2.cell 2
    have f3 : V2.cell? ⟨fb, 3, none⟩ = some (.slice none 0 0) := hf2.cell 3
    have z3 : V2.frozen? ⟨fb, 3, none⟩ = false := hf2.free 3
    have Hf2 := Lib.hid hf2
    have Hr2 := Lib.hid hr2
    have Hbe2 := Lib.hid hb2
    have Hheap := Lib.hid hheap
    clear hf2 hr2 hb2 hheap hbel hK Hf1 Hr1 Hbe1
    go_wp2_with fail
    clear f0 f1 f2 f3 z3
    have hf3 := (Hf2.out.set 3 (.slice (some ⟨g, 0, none⟩) m cap)).of (c' := #[.int .i64 kind, .int .i64 lba, .int .i64 seq, .slice (some ⟨g, 0, none⟩) m cap]) (by rfl)
    have hr3 := Hr2.out.setOther (a := ⟨fb, 3, none⟩) (fun e => hne e.symm) (.slice (some ⟨g, 0, none⟩) m cap)
    have hb3 := Hbe2.out.setCell (p := ⟨fb, 3, none⟩) hfB (.slice (some ⟨g, 0, none⟩) m cap)
    have ho3 := (Below.heap_setCell V2 ⟨fb, 3, none⟩ (.slice (some ⟨g, 0, none⟩) m cap) g hgf).trans Hheap.out
    generalize V2.setCell ⟨fb, 3, none⟩ (.slice (some ⟨g, 0, none⟩) m cap) = V3 at hf3 hr3 hb3 ho3 ⊢
    have hpk := frame_pack_ok n kind lba seq (some ⟨g, 0, none⟩) cap data V3 Hp.out.ok (by rw [Hml.out]; omega) Hdat.out (fun W' hW' => by
      have hlt : g < V3.heap.size := (Array.getElem?_eq_some_iff.1 ho3).1
      have := (hW'.block g hlt).trans ho3
      refine .inr ⟨g, 0, rfl, fun i hi => ?_⟩
      rw [Nat.zero_add]
      unfold World.cell?
      simp only [this]
      show ((data ++ List.replicate k 0).map (Value.int .u8)).toArray[i]? = _
      rw [List.getElem?_toArray, List.getElem?_map, List.getElem?_append_left hi, List.getElem?_eq_getElem hi]
      simp [List.getD, List.getElem?_eq_getElem hi])
    rw [Hml.out, Hp.out.pack] at hpk
    refine hpk.mono ?_
    rintro e V4 ⟨g2, hg2, rfl, hbk, hbel⟩
    clear hpk
    have hK : Keep (fun _ => False) V3 V4 := Keep.ofBelow hbel (fun k h1 h2 => absurd h1 (by omega))
    have hf4 := hK.blk hf3 (fun h => h)
    have hr4 := hK.blk hr3 (fun h => h)
    have hb4 := hb3.trans (hbel.mono (Nat.le_of_lt hr3.lt))
    have ho4 := (hbel.block g (Array.getElem?_eq_some_iff.1 ho3).1).trans ho3
    have hcv : ∀ i, i < n → V4.cell? ⟨pg, 0 + i, none⟩ = some (.int .u8 (ys.getD i 0)) := fun i hi => by
      rw [Nat.zero_add, hb4.cell (p := ⟨pg, i, none⟩) hpgr]
      exact Hc.out i hi
    have hcv2 : ∀ i, i < n → V4.cell? ⟨g2, 0 + i, none⟩ = some (.int .u8 (ys.getD i 0)) := fun i hi => by
      rw [Nat.zero_add, hbk.cell i]
      have h2 : i < ys.length := by rw [Hp.out.len]; exact hi
      simp [List.getD, h2]
    have heq := bytes_equal (.slice (some ⟨g2, 0, none⟩) n n) (.slice (some ⟨pg, 0, none⟩) n c) ys ys V4
      (run_convert_bytes_arg (P := Tryz.prog) V4 33 5 Tryz.underlying33 Tryz.underlying5 g2 0 n n ys Hp.out.len hcv2 9 Tryz.underlying9)
      (run_convert_bytes_arg (P := Tryz.prog) V4 33 5 Tryz.underlying33 Tryz.underlying5 pg 0 n c ys Hp.out.len hcv 9 Tryz.underlying9)
    rw [beq_self_eq_true] at heq
    have f0 : V4.cell? ⟨fb, 0, none⟩ = some (.int .i64 kind) := hf4.cell 0
    have f1 : V4.cell? ⟨fb, 1, none⟩ = some (.int .i64 lba) := hf4.cell 1
    have f2 : V4.cell? ⟨fb, 2, none⟩ = some (.int .i64 seq) := hf4.cell 2
    have f3 : V4.cell? ⟨fb, 3, none⟩ = some (.slice (some ⟨g, 0, none⟩) m cap) := hf4.cell 3
    have c0 : V4.cell? ⟨rb, 0, none⟩ = some (.int .i64 0) := hr4.cell 0
    have z0 : V4.frozen? ⟨rb, 0, none⟩ = false := hr4.free 0
    have c1 : V4.cell? ⟨rb, 1, none⟩ = some (.int .i64 0) := hr4.cell 1
    have z1 : V4.frozen? ⟨rb, 1, none⟩ = false := hr4.free 1
    have c2 : V4.cell? ⟨rb, 2, none⟩ = some (.int .i64 0) := hr4.cell 2
    have z2 : V4.frozen? ⟨rb, 2, none⟩ = false := hr4.free 2
    have c3 : V4.cell? ⟨rb, 3, none⟩ = some (.slice none 0 0) := hr4.cell 3
    have z3 : V4.frozen? ⟨rb, 3, none⟩ = false := hr4.free 3
    have Heq := Lib.hid heq
    have Hr4 := Lib.hid hr4
    have Hb4 := Lib.hid hb4
    have Ho4 := Lib.hid ho4
    clear hf3 hr3 hb3 ho3 hbk hbel hK hf4 hr4 hb4 ho4 hcv hcv2 heq Hf2 Hr2 Hbe2 Hheap
    go_wp2_with fail
    refine Heq.out.mono ?_
    rintro e V5 ⟨rfl, rfl⟩
    clear Heq
    go_wp2_with fail
    clear c0 c1 c2 c3 z0 z1 z2 z3 f0 f1 f2 f3
    have hb := ((((Hr4.out.set 0 (.int .i64 kind)).set 1 (.int .i64 lba)).set 2 (.int .i64 seq)).set 3 (.slice (some ⟨g, 0, none⟩) m cap)).of (c' := #[.int .i64 kind, .int .i64 lba, .int .i64 seq, .slice (some ⟨g, 0, none⟩) m cap]) (by rfl)
    have hbe := (((Hb4.out.setCell (p := ⟨rb, 0, none⟩) (Nat.le_refl _) (.int .i64 kind)).setCell (p := ⟨rb, 1, none⟩) (Nat.le_refl _) (.int .i64 lba)).setCell (p := ⟨rb, 2, none⟩) (Nat.le_refl _) (.int .i64 seq)).setCell (p := ⟨rb, 3, none⟩) (Nat.le_refl _) (.slice (some ⟨g, 0, none⟩) m cap)
    have ho := (Below.heap_setCell _ ⟨rb, 3, none⟩ (.slice (some ⟨g, 0, none⟩) m cap) g hgr).trans ((Below.heap_setCell _ ⟨rb, 2, none⟩ (.int .i64 seq) g hgr).trans ((Below.heap_setCell _ ⟨rb, 1, none⟩ (.int .i64 lba) g hgr).trans ((Below.heap_setCell V5 ⟨rb, 0, none⟩ (.int .i64 kind) g hgr).trans Ho4.out)))
    generalize (((V5.setCell ⟨rb, 0, none⟩ (.int .i64 kind)).setCell ⟨rb, 1, none⟩ (.int .i64 lba)).setCell ⟨rb, 2, none⟩ (.int .i64 seq)).setCell ⟨rb, 3, none⟩ (.slice (some ⟨g, 0, none⟩) m cap) = V6 at hb hbe ho ⊢
    refine bodyPost_ret (v := .tuple #[.agg #[.int .i64 kind, .int .i64 lba, .int .i64 seq, .slice (some ⟨g, 0, none⟩) m cap], .int .i64 2]) (by simp [results, asAddr, run_loadVar_row V6 rb 46 46 _ (0, 0) _ hb Tryz.underlying46 rfl (by kernel_rfl)]) rfl ?_
    have hgw : w.heap.size ≤ g := by have := Hrb.out; omega
    rw [Hrb.out] at hbe
    exact ⟨g, cap, hgw, rfl, ⟨k, ho⟩, hbe⟩
  case hstep =>
    rintro L ⟨hL, hG⟩ i hi
    rw [mem_ready] at hi
    obtain ⟨h0, o, ho, hd⟩ := hi
    have hi15 : i < 15 := (Array.getElem?_eq_some_iff.1 ho).1
    have h14 : L.getD 14 false = false := by
      cases h : L.getD 14 false with
      | false => rfl
      | true =>
        have h1 := hG h i hi15
        have h2 : i < L.size := by omega
        simp [h2] at h0 h1
        rw [h0] at h1
        cases h1
    clear hG
    obtain ⟨l0, l1, l2, l3, l4, l5, l6, l7, l8, l9, l10, l11, l12, l13, l14, rfl⟩ := arr15 L hL
    simp at h14
    subst h14
    have hcases : i = 0 ∨ i = 1 ∨ i = 2 ∨ i = 3 ∨ i = 4 ∨ i = 5 ∨ i = 6 ∨ i = 7 ∨ i = 8 ∨ i = 9 ∨ i = 10 ∨ i = 11 ∨ i = 12 ∨ i = 13 ∨ i = 14 := by omega
    rcases hcases with rfl | rfl | rfl | rfl | rfl | rfl | rfl | rfl | rfl | rfl | rfl | rfl | rfl | rfl | rfl
    · obtain rfl := Option.some.inj ho
      simp [Region.binds] at h0 hd
      repeat (obtain ⟨hx1, hd⟩ := hd; try subst hx1)
      (try subst h0)
      (try subst hd)
      refine ⟨⟨by simp, by first | (intro h; simp at h; done) | (intro _; decide)⟩, fun K hK => ?_⟩
      refine wpOp_step rfl ?_
      intro K' hK'
      cases l13
      all_goals (simp only [frameO, worldO] at hK ⊢; simp at hK; go_simp; exact hK' _ _ hK)
    · obtain rfl := Option.some.inj ho
      simp [Region.binds] at h0 hd
      repeat (obtain ⟨hx1, hd⟩ := hd; try subst hx1)
      (try subst h0)
      (try subst hd)
      refine ⟨⟨by simp, by first | (intro h; simp at h; done) | (intro _; decide)⟩, fun K hK => ?_⟩
      refine wpOp_step rfl ?_
      intro K' hK'
      cases l13
      all_goals (simp only [frameO, worldO] at hK ⊢; simp at hK; go_simp; exact hK' _ _ hK)
    · obtain rfl := Option.some.inj ho
      simp [Region.binds] at h0 hd
      repeat (obtain ⟨hx1, hd⟩ := hd; try subst hx1)
      (try subst h0)
      (try subst hd)
      refine ⟨⟨by simp, by first | (intro h; simp at h; done) | (intro _; decide)⟩, fun K hK => ?_⟩
      refine wpOp_step rfl ?_
      intro K' hK'
      cases l13
      all_goals (simp only [frameO, worldO] at hK ⊢; simp at hK; go_simp; exact hK' _ _ hK)
    · obtain rfl := Option.some.inj ho
      simp [Region.binds] at h0 hd
      repeat (obtain ⟨hx1, hd⟩ := hd; try subst hx1)
      (try subst h0)
      (try subst hd)
      refine ⟨⟨by simp, by first | (intro h; simp at h; done) | (intro _; decide)⟩, fun K hK => ?_⟩
      refine wpOp_step rfl ?_
      intro K' hK'
      cases l13
      all_goals (simp only [frameO, worldO] at hK ⊢; simp at hK; go_simp; exact hK' _ _ hK)
    · obtain rfl := Option.some.inj ho
      simp [Region.binds] at h0 hd
      repeat (obtain ⟨hx1, hd⟩ := hd; try subst hx1)
      (try subst h0)
      (try subst hd)
      refine ⟨⟨by simp, by first | (intro h; simp at h; done) | (intro _; decide)⟩, fun K hK => ?_⟩
      refine wpOp_step rfl ?_
      intro K' hK'
      cases l13
      all_goals (simp only [frameO, worldO] at hK ⊢; simp at hK; go_simp; exact hK' _ _ hK)
    · obtain rfl := Option.some.inj ho
      simp [Region.binds] at h0 hd
      repeat (obtain ⟨hx1, hd⟩ := hd; try subst hx1)
      (try subst h0)
      (try subst hd)
      refine ⟨⟨by simp, by first | (intro h; simp at h; done) | (intro _; decide)⟩, fun K hK => ?_⟩
      refine wpOp_step rfl ?_
      intro K' hK'
      cases l13
      all_goals (simp only [frameO, worldO] at hK ⊢; simp at hK; go_simp; exact hK' _ _ hK)
    · obtain rfl := Option.some.inj ho
      simp [Region.binds] at h0 hd
      repeat (obtain ⟨hx1, hd⟩ := hd; try subst hx1)
      (try subst h0)
      (try subst hd)
      refine ⟨⟨by simp, by first | (intro h; simp at h; done) | (intro _; decide)⟩, fun K hK => ?_⟩
      refine wpOp_step rfl ?_
      intro K' hK'
      cases l13
      · simp only [frameO, worldO] at hK ⊢
        simp at hK
        go_simp
        refine (Hg1.out _ (.inl rfl)).mono ?_
        rintro e w1 ⟨rfl, rfl⟩
        exact hK' _ _ hK
      · simp only [frameO, worldO] at hK ⊢
        simp at hK
        go_simp
        refine (Hg1.out _ (.inr rfl)).mono ?_
        rintro e w1 ⟨rfl, rfl⟩
        exact hK' _ _ hK
    · obtain rfl := Option.some.inj ho
      simp [Region.binds] at h0 hd
      repeat (obtain ⟨hx1, hd⟩ := hd; try subst hx1)
      (try subst h0)
      (try subst hd)
      refine ⟨⟨by simp, by first | (intro h; simp at h; done) | (intro _; decide)⟩, fun K hK => ?_⟩
      refine wpOp_step rfl ?_
      intro K' hK'
      cases l13
      all_goals (simp only [frameO, worldO] at hK ⊢; simp at hK; go_simp; exact hK' _ _ hK)
    · obtain rfl := Option.some.inj ho
      simp [Region.binds] at h0 hd
      repeat (obtain ⟨hx1, hd⟩ := hd; try subst hx1)
      (try subst h0)
      (try subst hd)
      refine ⟨⟨by simp, by first | (intro h; simp at h; done) | (intro _; decide)⟩, fun K hK => ?_⟩
      refine wpOp_step rfl ?_
      intro K' hK'
      cases l13
      all_goals (simp only [frameO, worldO] at hK ⊢; simp at hK; go_simp; exact hK' _ _ hK)
    · obtain rfl := Option.some.inj ho
      simp [Region.binds] at h0 hd
      repeat (obtain ⟨hx1, hd⟩ := hd; try subst hx1)
      (try subst h0)
      (try subst hd)
      refine ⟨⟨by simp, by first | (intro h; simp at h; done) | (intro _; decide)⟩, fun K hK => ?_⟩
      refine wpOp_step rfl ?_
      intro K' hK'
      cases l13
      all_goals (simp only [frameO, worldO] at hK ⊢; simp at hK; go_simp; exact hK' _ _ hK)
    · obtain rfl := Option.some.inj ho
      simp [Region.binds] at h0 hd
      repeat (obtain ⟨hx1, hd⟩ := hd; try subst hx1)
      (try subst h0)
      (try subst hd)
      refine ⟨⟨by simp, by first | (intro h; simp at h; done) | (intro _; decide)⟩, fun K hK => ?_⟩
      refine wpOp_step rfl ?_
      intro K' hK'
      cases l13
      · simp only [frameO, worldO] at hK ⊢
        simp at hK
        go_simp
        refine (Hg2.out _ (.inl rfl)).mono ?_
        rintro e w1 ⟨rfl, rfl⟩
        exact hK' _ _ hK
      · simp only [frameO, worldO] at hK ⊢
        simp at hK
        go_simp
        refine (Hg2.out _ (.inr rfl)).mono ?_
        rintro e w1 ⟨rfl, rfl⟩
        exact hK' _ _ hK
    · obtain rfl := Option.some.inj ho
      simp [Region.binds] at h0 hd
      repeat (obtain ⟨hx1, hd⟩ := hd; try subst hx1)
      (try subst h0)
      (try subst hd)
      refine ⟨⟨by simp, by first | (intro h; simp at h; done) | (intro _; decide)⟩, fun K hK => ?_⟩
      refine wpOp_step rfl ?_
      intro K' hK'
      cases l13
      all_goals (simp only [frameO, worldO] at hK ⊢; simp at hK; go_simp; exact hK' _ _ hK)
    · obtain rfl := Option.some.inj ho
      simp [Region.binds] at h0 hd
      repeat (obtain ⟨hx1, hd⟩ := hd; try subst hx1)
      (try subst h0)
      (try subst hd)
      refine ⟨⟨by simp, by first | (intro h; simp at h; done) | (intro _; decide)⟩, fun K hK => ?_⟩
      refine wpOp_step rfl ?_
      intro K' hK'
      cases l13
      all_goals (simp only [frameO, worldO] at hK ⊢; simp at hK; go_simp; exact hK' _ _ hK)
    · obtain rfl := Option.some.inj ho
      simp [Region.binds] at h0 hd
      repeat (obtain ⟨hx1, hd⟩ := hd; try subst hx1)
      (try subst h0)
      (try subst hd)
      refine ⟨⟨by simp, by first | (intro h; simp at h; done) | (intro _; decide)⟩, fun K hK => ?_⟩
      refine wpOp_step rfl ?_
      intro K' hK'
      (simp only [frameO, worldO] at hK ⊢; simp at hK; go_simp; exact hK' _ _ hK)
    · obtain rfl := Option.some.inj ho
      simp [Region.binds] at h0 hd
      repeat (obtain ⟨hx1, hd⟩ := hd; try subst hx1)
      (try subst h0)
      (try subst hd)
      refine ⟨⟨by simp, by first | (intro h; simp at h; done) | (intro _; decide)⟩, fun K hK => ?_⟩
      refine wpOp_step rfl ?_
      intro K' hK'
      (simp only [frameO, worldO] at hK ⊢; simp at hK; go_simp; exact hK' _ _ hK)
end Go.Proofs.YtdkpbobglogmoaaGreat
