/- Contracts of ring.Post: NewPost, Put, Free. -/
import Derived.Test.YtkehhfgoikbciaaDoorBase
import Derived.Test.YtkehhfgoikbciaaDoorProg
import Derived.Test.YtkehhfgoikbciaaDoorPick
import Derived.StillTailTactics
import Derived.Lib.Hide
namespace Go.Proofs.YtkehhfgoikbciaaDoor
open Go.RowKit
set_option linter.unusedVariables false

def ringErr (k : Int) : Value := .iface 29 (.int .i64 k)

/-- A post's cells: its slots (of no bytes), head, tail, down. -/
def postCells (sp : Option Addr) (n h t : Nat) (down : Bool) : Array Value := #[.slice sp n n, .int .i64 h, .int .i64 t, .bool down]

theorem fits_any (n : Int) (w : World) :
    Calls Tryd.prog 69 #[.int .i64 n] w fun e w' => e = .returned (.bool (decide (2 ≤ n) && decide (n ≤ 16))) ∧ w = w' := by
  by_cases h1 : 2 ≤ n
  · by_cases h2 : n ≤ 16
    · go_enter Tryd.func69, Tryd.ntmps69
      go_wp2
      go_ret
      exact ⟨ret_bool (by simp; omega), rfl⟩
    · go_enter Tryd.func69, Tryd.ntmps69
      go_wp2
      go_ret
      exact ⟨ret_bool (by simp; omega), rfl⟩
  · go_enter Tryd.func69, Tryd.ntmps69
    go_wp2
    go_ret
    exact ⟨ret_bool (by simp; omega), rfl⟩

theorem post_new_bad (n : Int) (w : World) (h : n < 2 ∨ 16 < n) :
    Calls Tryd.prog 33 #[.int .i64 n] w fun e w' => e = .returned (.tuple #[.pointer none, ringErr 1]) ∧ w = w' := by
  have hb : (decide (2 ≤ n) && decide (n ≤ 16)) = false := by simp; omega
  have Hb := Lib.hid hb
  clear hb h
  go_enter Tryd.func33, Tryd.ntmps33
  go_wp2_with fail
  refine (fits_any n _).mono ?_
  rw [Hb.out]
  rintro e w' ⟨rfl, rfl⟩
  go_wp2
  go_ret2
  exact ⟨rfl, rfl⟩

theorem post_new_ok (n : Nat) (w : World) (h2 : 2 ≤ n) (h16 : n ≤ 16) :
    Calls Tryd.prog 33 #[.int .i64 n] w fun e w' => e = .returned (.tuple #[.pointer (some ⟨w.heap.size + 1, 0, none⟩), .nilIface]) ∧
      Blk w' (w.heap.size + 1) (postCells (some ⟨w.heap.size, 0, none⟩) n 0 0 false) 153 ∧ Below w.heap.size w w' := by
  have hb : (decide (2 ≤ (n : Int)) && decide ((n : Int) ≤ 16)) = true := by simp; omega
  have Hb := Lib.hid hb
  clear hb
  obtain ⟨i0, hi, hz0, hz1, hz2⟩ := info_parts (P := Tryd.prog) (e := 154) (z := .agg #[]) (size := 0) (bytes := 0) (by kernel_rfl)
  have hmk := fun (w : World) => run_make (P := Tryd.prog) w 149 154 i0 (.agg #[]) Tryd.underlying149 hi hz0 .i64 .i64 n n (by omega) (Int.le_refl _) (by rw [hz2]; omega) (by omega)
  rw [hz1] at hmk
  simp only [Nat.mul_zero, Int.toNat_natCast] at hmk
  generalize hcc : madeCells (Value.agg #[]).cells 0 = cc at hmk
  have Hcc := Lib.hid hcc
  clear hcc hi hz0 hz1 hz2
  go_enter Tryd.func33, Tryd.ntmps33
  go_wp2_with fail
  refine (fits_any n _).mono ?_
  rw [Hb.out]
  rintro e w' ⟨rfl, rfl⟩
  go_wp2
  go_ret2
  refine ⟨rfl, ?_, ((Below.refl _ _).alloc (Nat.le_refl _) _).alloc (by simp) _⟩
  have e := Blk.new (w.alloc (.cells cc 154)) (postCells (some ⟨w.heap.size, 0, none⟩) n 0 0 false) 153
  unfold postCells at e ⊢
  simpa using e

theorem post_after (b : Nat) (sp : Option Addr) (n h t : Nat) (down : Bool) (k : Nat) (w : World) (hb : Blk w b (postCells sp n h t down) 153) (h0 : 0 < n) (hn : n ≤ 16) (hk : k ≤ 16) :
    Calls Tryd.prog 78 #[.pointer (some ⟨b, 0, none⟩), .int .i64 k] w fun e w' => e = .returned (.int .i64 ((k + 1) % n : Nat)) ∧ w' = w := by
  have c0 : w.cell? ⟨b, 0, none⟩ = some (.slice sp n n) := hb.cell 0
  have hz : ((n : Int) == 0) = false := by simp; omega
  clear hb
  go_enter Tryd.func78, Tryd.ntmps78
  go_wp2
  go_ret
  exact ⟨ret_int (by simp), rfl⟩

set_option maxHeartbeats 1000000 in
theorem post_full (b : Nat) (sp : Option Addr) (n h t : Nat) (down : Bool) (w : World) (hb : Blk w b (postCells sp n h t down) 153) (h0 : 0 < n) (hn : n ≤ 16) (ht : t < n) (hh : h < n) :
    Calls Tryd.prog 77 #[.pointer (some ⟨b, 0, none⟩)] w fun e w' => e = .returned (.bool (decide ((t + 1) % n = h))) ∧ ∃ q, w' = w.drewN q := by
  have c1 : w.cell? ⟨b, 1, none⟩ = some (.int .i64 h) := hb.cell 1
  have c2 : w.cell? ⟨b, 2, none⟩ = some (.int .i64 t) := hb.cell 2
  have Hb := Lib.hid hb
  clear hb
  go_enter Tryd.func77, Tryd.ntmps77
  go_wp2
  go_quiet ((go_at_call 78; exact Calls.quiet_of_same (post_after b sp n h t down t _ (Hb.out.drewN _) h0 hn (by omega))))
  go_wp2
  go_ret
  refine ⟨ret_bool ?_, _, rfl⟩
  have e : ((t : Int) + 1) % (n : Int) = (((t + 1) % n : Nat) : Int) := by simp
  rw [Bool.eq_iff_iff]
  simp only [e, beq_iff_eq, decide_eq_true_eq]
  omega

/-- Put where there is room. -/
def putDown (n t : Nat) (down : Bool) : Bool := if (t + 1) % n = 0 then !down else down
set_option maxHeartbeats 1000000 in
theorem post_put_full (b : Nat) (sp : Option Addr) (n h t : Nat) (down : Bool) (w : World) (hb : Blk w b (postCells sp n h t down) 153) (h0 : 0 < n) (hn : n ≤ 16) (ht : t < n) (hh : h < n) (hf : (t + 1) % n = h) :
    Calls Tryd.prog 34 #[.pointer (some ⟨b, 0, none⟩)] w fun e w' => e = .returned (.tuple #[.int .i64 0, .bool false, ringErr 3]) ∧ ∃ q, w' = w.drewN q := by
  have Hb := Lib.hid hb
  have Hf := Lib.hid hf
  clear hb hf
  go_enter Tryd.func34, Tryd.ntmps34
  go_wp2_with fail
  refine (post_full b sp n h t down _ Hb.out h0 hn ht hh).mono ?_
  rw [Hf.out, decide_eq_true rfl]
  rintro e w' ⟨rfl, q, rfl⟩
  go_wp2
  go_ret3
  exact ⟨rfl, _, rfl⟩

set_option maxRecDepth 100000 in
set_option maxHeartbeats 1000000 in
theorem post_put_room (b : Nat) (sp : Option Addr) (n h t : Nat) (down : Bool) (w : World) (hb : Blk w b (postCells sp n h t down) 153) (h0 : 0 < n) (hn : n ≤ 16) (ht : t < n) (hh : h < n) (hf : (t + 1) % n ≠ h) :
    Calls Tryd.prog 34 #[.pointer (some ⟨b, 0, none⟩)] w fun e w' => e = .returned (.tuple #[.int .i64 t, .bool (!down), .nilIface]) ∧
      Blk w' b (postCells sp n h ((t + 1) % n) (putDown n t down)) 153 ∧ Keep (· = b) w w' := by
  have c1 : w.cell? ⟨b, 1, none⟩ = some (.int .i64 h) := hb.cell 1
  have c2 : w.cell? ⟨b, 2, none⟩ = some (.int .i64 t) := hb.cell 2
  have c3 : w.cell? ⟨b, 3, none⟩ = some (.bool down) := hb.cell 3
  have f2 := hb.free 2
  have f3 := hb.free 3
  have hlt := hb.lt
  have Hb := Lib.hid hb
  have Hf := Lib.hid hf
  have hf' : decide ((t + 1) % n = h) = false := by simpa using hf
  have Hf' := Lib.hid hf'
  clear hb hf hf'
  go_enter Tryd.func34, Tryd.ntmps34
  go_wp2_with fail
  refine (post_full b sp n h t down _ Hb.out h0 hn ht hh).mono ?_
  rw [Hf'.out]
  rintro e w' ⟨rfl, q, rfl⟩
  go_wp2
  go_quiet (fail)
  go_wp2
  have hk2 : Keep (· = b) w ((w.drewN q).drewN nq) := by (repeat (first | with_reducible exact Keep.refl _ _ | with_reducible apply Keep.drew | with_reducible apply Keep.drewN | with_reducible apply Keep.alloc | (with_reducible refine Keep.setCell ?_ (by first | (left; rfl) | (right; simp; omega)) _)))
  have hb2 : Blk ((w.drewN q).drewN nq).drew b (postCells sp n h t down) 153 := Hb.out
  have hk3 := hk2.drew
  clear c1 c2 c3 f2 f3 hlt hk2
  generalize hW : (w.drewN q).drewN nq = W2 at hb2 hk3 ⊢
  clear hW
  refine wp_region_still_tail 13 (by kernel_rfl) (by kernel_rfl) ?_
  simp only [List.take_succ_cons, List.take_zero, List.drop_succ_cons, List.drop_zero]
  change wpStill _ _ W2.drew (fun a' => wpList _ _ _ _ a' W2.drew) _ _
  generalize hW : W2.drew = W3 at hb2 hk3 ⊢
  have c1 : W3.cell? ⟨b, 1, none⟩ = some (.int .i64 h) := hb2.cell 1
  have c2 : W3.cell? ⟨b, 2, none⟩ = some (.int .i64 t) := hb2.cell 2
  have c3 : W3.cell? ⟨b, 3, none⟩ = some (.bool down) := hb2.cell 3
  have f2 := hb2.free 2
  have f3 := hb2.free 3
  have hlt := hb2.lt
  have Hb2 := Lib.hid hb2
  have Hk3 := Lib.hid hk3
  clear hb2 hk3 Hb hW
  iterate 9 still_step
  obtain ⟨m, hm⟩ : ∃ m, m = (t + 1) % n := ⟨_, rfl⟩
  have Hm := Lib.hid hm
  have haft := post_after b sp n h t down t _ Hb2.out h0 hn (by omega)
  rw [← hm] at haft
  have Haft := Lib.hid haft
  clear haft hm
  still_call (Haft.out)
  iterate 3 still_step
  refine wpStill_nil ?_
  by_cases hz : m = 0
  · subst hz
    go_wp2
    go_ret3
    refine ⟨rfl, Blk.of (c := ((postCells sp n h t down).setIfInBounds 2 (.int .i64 ((0 : Nat) : Int))).setIfInBounds 3 (.bool !down)) ?_ ?_, ?_⟩
    · exact (Hb2.out.set _ _).set _ _
    · rw [← Hm.out]; unfold putDown; rw [if_pos Hm.out.symm]; rfl
    · exact (Hk3.out.setCell (.inl rfl) _).setCell (.inl rfl) _
  · have hz' : ((m : Int) == 0) = false := by simpa using hz
    clear hz
    go_wp2
    go_ret3
    refine ⟨rfl, Blk.of (c := (postCells sp n h t down).setIfInBounds 2 (.int .i64 (m : Int))) ?_ ?_, ?_⟩
    · exact Hb2.out.set _ _
    · rw [← Hm.out]; unfold putDown; rw [if_neg (by rw [← Hm.out]; simpa using hz')]; rfl
    · exact Hk3.out.setCell (.inl rfl) _

set_option maxHeartbeats 1000000 in
theorem post_free_bad (b : Nat) (sp : Option Addr) (n h t : Nat) (down : Bool) (x : Int) (w : World) (hb : Blk w b (postCells sp n h t down) 153) (hn : n ≤ 16) (hx : x < 0 ∨ (n : Int) ≤ x) :
    Calls Tryd.prog 35 #[.pointer (some ⟨b, 0, none⟩), .int .i64 x] w fun e w' => e = .returned (ringErr 1) ∧ w = w' := by
  have c0 : w.cell? ⟨b, 0, none⟩ = some (.slice sp n n) := hb.cell 0
  clear hb
  by_cases h1 : x < 0
  · clear hx
    go_enter Tryd.func35, Tryd.ntmps35
    go_wp2
    go_ret
    exact ⟨rfl, rfl⟩
  · have h2 : (n : Int) ≤ x := by omega
    clear hx
    go_enter Tryd.func35, Tryd.ntmps35
    go_wp2
    go_ret
    exact ⟨rfl, rfl⟩
set_option maxHeartbeats 1000000 in
theorem post_free_ok (b : Nat) (sp : Option Addr) (n h t : Nat) (down : Bool) (x : Nat) (w : World) (hb : Blk w b (postCells sp n h t down) 153) (hn : n ≤ 16) (hx : x < n) :
    Calls Tryd.prog 35 #[.pointer (some ⟨b, 0, none⟩), .int .i64 x] w fun e w' => e = .returned .nilIface ∧ Blk w' b (postCells sp n x t down) 153 ∧ Keep (· = b) w w' := by
  have c0 : w.cell? ⟨b, 0, none⟩ = some (.slice sp n n) := hb.cell 0
  have c1 : w.cell? ⟨b, 1, none⟩ = some (.int .i64 h) := hb.cell 1
  have f1 := hb.free 1
  have Hb := Lib.hid hb
  clear hb
  have hx' : ¬ (n : Int) ≤ x := by omega
  go_enter Tryd.func35, Tryd.ntmps35
  go_wp2
  go_ret
  exact ⟨rfl, Hb.out.set 1 _, Keep.setCell (S := (· = b)) (Keep.refl _ _) (.inl rfl) _⟩
end Go.Proofs.YtkehhfgoikbciaaDoor
