/- Contracts of package bell: New, Post, Tick, Mask, Rings, Waits. -/
import Derived.Test.YtkehhfgoikbciaaDoorBase
import Derived.Test.YtkehhfgoikbciaaDoorProg
import Derived.BigQuiet
import Derived.Deep.QuietTactic
namespace Go.Proofs.YtkehhfgoikbciaaDoor
open Go.RowKit
set_option linter.unusedVariables false

def rangeErr : Value := .iface 29 (.int .i64 1)

theorem bell_new_bad (l d : Int) (w : World) (h : l < 1 ∨ 64 < l ∨ d < 0 ∨ 1000 < d) :
    Calls Tryd.prog 21 #[.int .i64 l, .int .i64 d] w fun e w' => e = .returned (.tuple #[.pointer none, rangeErr]) ∧ w = w' := by
  by_cases h1 : l < 1
  · go_enter Tryd.func21, Tryd.ntmps21
    go_wp2
    go_ret2
    exact ⟨rfl, rfl⟩
  by_cases h2 : 64 < l
  · go_enter Tryd.func21, Tryd.ntmps21
    go_wp2
    go_ret2
    exact ⟨rfl, rfl⟩
  by_cases h3 : d < 0
  · go_enter Tryd.func21, Tryd.ntmps21
    go_wp2
    go_ret2
    exact ⟨rfl, rfl⟩
  have h4 : 1000 < d := by omega
  go_enter Tryd.func21, Tryd.ntmps21
  go_wp2
  go_ret2
  exact ⟨rfl, rfl⟩

/-- A bell's state: limit, delay, waits, age, rings, masked. -/
structure BS where
  l : Int
  d : Int
  n : Int
  a : Int
  r : Int
  m : Bool
def BS.cells (s : BS) : Array Value := #[.int .i64 s.l, .int .i64 s.d, .int .i64 s.n, .int .i64 s.a, .int .i64 s.r, .bool s.m]
/-- it rings, if it is time -/
def BS.rung (s : BS) : BS := if s.m = false ∧ 0 < s.n ∧ (s.l ≤ s.n ∨ s.d ≤ s.a) then { s with r := s.r + 1, n := 0, a := 0 } else s
def BS.post (s : BS) : BS := BS.rung { s with n := s.n + 1 }
def BS.tick (s : BS) : BS := BS.rung { s with a := if 0 < s.n then s.a + 1 else s.a }
def BS.mask (s : BS) (on : Bool) : BS := BS.rung { s with m := on }
/-- its numbers are no great ones -/
structure BS.small (s : BS) : Prop where
  n0 : 0 ≤ s.n
  n1 : s.n ≤ 4000000000000000000
  a0 : 0 ≤ s.a
  a1 : s.a ≤ 4000000000000000000
  r0 : 0 ≤ s.r
  r1 : s.r ≤ 4000000000000000000

theorem bell_new_ok (l d : Int) (w : World) (h1 : 1 ≤ l) (h2 : l ≤ 64) (h3 : 0 ≤ d) (h4 : d ≤ 1000) :
    Calls Tryd.prog 21 #[.int .i64 l, .int .i64 d] w fun e w' => e = .returned (.tuple #[.pointer (some ⟨w.heap.size, 0, none⟩), .nilIface]) ∧
      w.alloc (.cells (BS.cells ⟨l, d, 0, 0, 0, false⟩) 141 (0,0)) = w' := by
  go_enter Tryd.func21, Tryd.ntmps21
  go_wp2
  go_ret2
  exact ⟨rfl, rfl⟩

theorem bell_rings (b : Nat) (s : BS) (w : World) (hb : Blk w b s.cells 141) :
    Calls Tryd.prog 25 #[.pointer (some ⟨b, 0, none⟩)] w fun e w' => e = .returned (.int .i64 s.r) ∧ w = w' := by
  have c4 : w.cell? ⟨b, 4, none⟩ = some (.int .i64 s.r) := hb.cell 4
  clear hb
  go_enter Tryd.func25, Tryd.ntmps25
  go_wp2
  go_ret
  exact ⟨rfl, rfl⟩

theorem bell_waits (b : Nat) (s : BS) (w : World) (hb : Blk w b s.cells 141) :
    Calls Tryd.prog 26 #[.pointer (some ⟨b, 0, none⟩)] w fun e w' => e = .returned (.int .i64 s.n) ∧ w = w' := by
  have c2 : w.cell? ⟨b, 2, none⟩ = some (.int .i64 s.n) := hb.cell 2
  clear hb
  go_enter Tryd.func26, Tryd.ntmps26
  go_wp2
  go_ret
  exact ⟨rfl, rfl⟩


set_option maxHeartbeats 1000000 in
theorem bell_post_m (b : Nat) (l d n a r : Int) (m : Bool) (w : World) (hb : Blk w b (BS.cells ⟨l, d, n, a, r, m⟩) 141)
    (n0 : 0 ≤ n) (n1 : n ≤ 4000000000000000000) (a0 : 0 ≤ a) (a1 : a ≤ 4000000000000000000) (r0 : 0 ≤ r) (r1 : r ≤ 4000000000000000000)  (hm : m = true) :
    Calls Tryd.prog 22 #[.pointer (some ⟨b, 0, none⟩)] w fun e w' => e = .returned (.tuple #[]) ∧
      Blk w' b (BS.cells ⟨l, d, n + 1, a, r, m⟩) 141 ∧ Keep (· = b) w w' := by
  have hlt := hb.lt
  have c0 : w.cell? ⟨b, 0, none⟩ = some (.int .i64 l) := hb.cell 0
  have c1 : w.cell? ⟨b, 1, none⟩ = some (.int .i64 d) := hb.cell 1
  have c2 : w.cell? ⟨b, 2, none⟩ = some (.int .i64 n) := hb.cell 2
  have c3 : w.cell? ⟨b, 3, none⟩ = some (.int .i64 a) := hb.cell 3
  have c4 : w.cell? ⟨b, 4, none⟩ = some (.int .i64 r) := hb.cell 4
  have c5 : w.cell? ⟨b, 5, none⟩ = some (.bool m) := hb.cell 5
  have f2 := hb.free 2
  have f3 := hb.free 3
  have f4 := hb.free 4
  have f5 := hb.free 5
  have t1 : decide (0 < n + 1) = true := by simp; omega
  subst hm
  go_enter Tryd.func22, Tryd.ntmps22
  go_wp2
  go_end0
  go_wp2
  go_quiet (fail)
  go_wp2
  go_end0
  go_wp2
  go_end0
  refine ⟨rfl, Blk.of (by (repeat (first | with_reducible assumption | with_reducible apply Blk.drew | with_reducible apply Blk.drewN | with_reducible apply Blk.alloc | with_reducible apply Blk.set | (with_reducible refine Blk.setOther ?_ (by simp; omega) _)))) ?_, by (repeat (first | with_reducible exact Keep.refl _ _ | with_reducible apply Keep.drew | with_reducible apply Keep.drewN | with_reducible apply Keep.alloc | (with_reducible refine Keep.setCell ?_ (by first | (left; rfl) | (right; simp; omega)) _)))⟩
  rfl

set_option maxHeartbeats 1000000 in
theorem bell_post_l (b : Nat) (l d n a r : Int) (m : Bool) (w : World) (hb : Blk w b (BS.cells ⟨l, d, n, a, r, m⟩) 141)
    (n0 : 0 ≤ n) (n1 : n ≤ 4000000000000000000) (a0 : 0 ≤ a) (a1 : a ≤ 4000000000000000000) (r0 : 0 ≤ r) (r1 : r ≤ 4000000000000000000)  (hm : m = false) (hl : l ≤ n + 1) :
    Calls Tryd.prog 22 #[.pointer (some ⟨b, 0, none⟩)] w fun e w' => e = .returned (.tuple #[]) ∧
      Blk w' b (BS.cells ⟨l, d, 0, 0, r + 1, m⟩) 141 ∧ Keep (· = b) w w' := by
  have hlt := hb.lt
  have c0 : w.cell? ⟨b, 0, none⟩ = some (.int .i64 l) := hb.cell 0
  have c1 : w.cell? ⟨b, 1, none⟩ = some (.int .i64 d) := hb.cell 1
  have c2 : w.cell? ⟨b, 2, none⟩ = some (.int .i64 n) := hb.cell 2
  have c3 : w.cell? ⟨b, 3, none⟩ = some (.int .i64 a) := hb.cell 3
  have c4 : w.cell? ⟨b, 4, none⟩ = some (.int .i64 r) := hb.cell 4
  have c5 : w.cell? ⟨b, 5, none⟩ = some (.bool m) := hb.cell 5
  have f2 := hb.free 2
  have f3 := hb.free 3
  have f4 := hb.free 4
  have f5 := hb.free 5
  have t1 : decide (0 < n + 1) = true := by simp; omega
  have t2 : decide (l ≤ n + 1) = true := by simp; omega
  subst hm
  go_enter Tryd.func22, Tryd.ntmps22
  go_wp2
  go_end0
  go_wp2
  go_quiet (fail)
  go_wp2
  go_end0
  go_wp2
  go_end0
  refine ⟨rfl, Blk.of (by (repeat (first | with_reducible assumption | with_reducible apply Blk.drew | with_reducible apply Blk.drewN | with_reducible apply Blk.alloc | with_reducible apply Blk.set | (with_reducible refine Blk.setOther ?_ (by simp; omega) _)))) ?_, by (repeat (first | with_reducible exact Keep.refl _ _ | with_reducible apply Keep.drew | with_reducible apply Keep.drewN | with_reducible apply Keep.alloc | (with_reducible refine Keep.setCell ?_ (by first | (left; rfl) | (right; simp; omega)) _)))⟩
  rfl

set_option maxHeartbeats 1000000 in
theorem bell_post_a (b : Nat) (l d n a r : Int) (m : Bool) (w : World) (hb : Blk w b (BS.cells ⟨l, d, n, a, r, m⟩) 141)
    (n0 : 0 ≤ n) (n1 : n ≤ 4000000000000000000) (a0 : 0 ≤ a) (a1 : a ≤ 4000000000000000000) (r0 : 0 ≤ r) (r1 : r ≤ 4000000000000000000)  (hm : m = false) (hl : ¬ l ≤ n + 1) (ha : d ≤ a) :
    Calls Tryd.prog 22 #[.pointer (some ⟨b, 0, none⟩)] w fun e w' => e = .returned (.tuple #[]) ∧
      Blk w' b (BS.cells ⟨l, d, 0, 0, r + 1, m⟩) 141 ∧ Keep (· = b) w w' := by
  have hlt := hb.lt
  have c0 : w.cell? ⟨b, 0, none⟩ = some (.int .i64 l) := hb.cell 0
  have c1 : w.cell? ⟨b, 1, none⟩ = some (.int .i64 d) := hb.cell 1
  have c2 : w.cell? ⟨b, 2, none⟩ = some (.int .i64 n) := hb.cell 2
  have c3 : w.cell? ⟨b, 3, none⟩ = some (.int .i64 a) := hb.cell 3
  have c4 : w.cell? ⟨b, 4, none⟩ = some (.int .i64 r) := hb.cell 4
  have c5 : w.cell? ⟨b, 5, none⟩ = some (.bool m) := hb.cell 5
  have f2 := hb.free 2
  have f3 := hb.free 3
  have f4 := hb.free 4
  have f5 := hb.free 5
  have t1 : decide (0 < n + 1) = true := by simp; omega
  have t2 : decide (l ≤ n + 1) = false := by simp; omega
  have t3 : decide (d ≤ a) = true := by simp; omega
  subst hm
  go_enter Tryd.func22, Tryd.ntmps22
  go_wp2
  go_end0
  go_wp2
  go_quiet (fail)
  go_wp2
  go_end0
  go_wp2
  go_end0
  refine ⟨rfl, Blk.of (by (repeat (first | with_reducible assumption | with_reducible apply Blk.drew | with_reducible apply Blk.drewN | with_reducible apply Blk.alloc | with_reducible apply Blk.set | (with_reducible refine Blk.setOther ?_ (by simp; omega) _)))) ?_, by (repeat (first | with_reducible exact Keep.refl _ _ | with_reducible apply Keep.drew | with_reducible apply Keep.drewN | with_reducible apply Keep.alloc | (with_reducible refine Keep.setCell ?_ (by first | (left; rfl) | (right; simp; omega)) _)))⟩
  rfl

set_option maxHeartbeats 1000000 in
theorem bell_post_n (b : Nat) (l d n a r : Int) (m : Bool) (w : World) (hb : Blk w b (BS.cells ⟨l, d, n, a, r, m⟩) 141)
    (n0 : 0 ≤ n) (n1 : n ≤ 4000000000000000000) (a0 : 0 ≤ a) (a1 : a ≤ 4000000000000000000) (r0 : 0 ≤ r) (r1 : r ≤ 4000000000000000000)  (hm : m = false) (hl : ¬ l ≤ n + 1) (ha : ¬ d ≤ a) :
    Calls Tryd.prog 22 #[.pointer (some ⟨b, 0, none⟩)] w fun e w' => e = .returned (.tuple #[]) ∧
      Blk w' b (BS.cells ⟨l, d, n + 1, a, r, m⟩) 141 ∧ Keep (· = b) w w' := by
  have hlt := hb.lt
  have c0 : w.cell? ⟨b, 0, none⟩ = some (.int .i64 l) := hb.cell 0
  have c1 : w.cell? ⟨b, 1, none⟩ = some (.int .i64 d) := hb.cell 1
  have c2 : w.cell? ⟨b, 2, none⟩ = some (.int .i64 n) := hb.cell 2
  have c3 : w.cell? ⟨b, 3, none⟩ = some (.int .i64 a) := hb.cell 3
  have c4 : w.cell? ⟨b, 4, none⟩ = some (.int .i64 r) := hb.cell 4
  have c5 : w.cell? ⟨b, 5, none⟩ = some (.bool m) := hb.cell 5
  have f2 := hb.free 2
  have f3 := hb.free 3
  have f4 := hb.free 4
  have f5 := hb.free 5
  have t1 : decide (0 < n + 1) = true := by simp; omega
  have t2 : decide (l ≤ n + 1) = false := by simp; omega
  have t3 : decide (d ≤ a) = false := by simp; omega
  subst hm
  go_enter Tryd.func22, Tryd.ntmps22
  go_wp2
  go_end0
  go_wp2
  go_quiet (fail)
  go_wp2
  go_end0
  go_wp2
  go_end0
  refine ⟨rfl, Blk.of (by (repeat (first | with_reducible assumption | with_reducible apply Blk.drew | with_reducible apply Blk.drewN | with_reducible apply Blk.alloc | with_reducible apply Blk.set | (with_reducible refine Blk.setOther ?_ (by simp; omega) _)))) ?_, by (repeat (first | with_reducible exact Keep.refl _ _ | with_reducible apply Keep.drew | with_reducible apply Keep.drewN | with_reducible apply Keep.alloc | (with_reducible refine Keep.setCell ?_ (by first | (left; rfl) | (right; simp; omega)) _)))⟩
  rfl

set_option maxHeartbeats 1000000 in
theorem bell_tick_0 (b : Nat) (l d n a r : Int) (m : Bool) (w : World) (hb : Blk w b (BS.cells ⟨l, d, n, a, r, m⟩) 141)
    (n0 : 0 ≤ n) (n1 : n ≤ 4000000000000000000) (a0 : 0 ≤ a) (a1 : a ≤ 4000000000000000000) (r0 : 0 ≤ r) (r1 : r ≤ 4000000000000000000) (hn : n = 0) (hm : m = true) :
    Calls Tryd.prog 23 #[.pointer (some ⟨b, 0, none⟩)] w fun e w' => e = .returned (.tuple #[]) ∧
      Blk w' b (BS.cells ⟨l, d, 0, a, r, m⟩) 141 ∧ Keep (· = b) w w' := by
  have hlt := hb.lt
  have c0 : w.cell? ⟨b, 0, none⟩ = some (.int .i64 l) := hb.cell 0
  have c1 : w.cell? ⟨b, 1, none⟩ = some (.int .i64 d) := hb.cell 1
  have c2 : w.cell? ⟨b, 2, none⟩ = some (.int .i64 n) := hb.cell 2
  have c3 : w.cell? ⟨b, 3, none⟩ = some (.int .i64 a) := hb.cell 3
  have c4 : w.cell? ⟨b, 4, none⟩ = some (.int .i64 r) := hb.cell 4
  have c5 : w.cell? ⟨b, 5, none⟩ = some (.bool m) := hb.cell 5
  have f2 := hb.free 2
  have f3 := hb.free 3
  have f4 := hb.free 4
  have f5 := hb.free 5
  subst hn
  subst hm
  go_enter Tryd.func23, Tryd.ntmps23
  go_wp2
  go_end0
  go_wp2
  go_quiet (fail)
  go_wp2
  go_end0
  go_wp2
  go_end0
  refine ⟨rfl, Blk.of (by (repeat (first | with_reducible assumption | with_reducible apply Blk.drew | with_reducible apply Blk.drewN | with_reducible apply Blk.alloc | with_reducible apply Blk.set | (with_reducible refine Blk.setOther ?_ (by simp; omega) _)))) ?_, by (repeat (first | with_reducible exact Keep.refl _ _ | with_reducible apply Keep.drew | with_reducible apply Keep.drewN | with_reducible apply Keep.alloc | (with_reducible refine Keep.setCell ?_ (by first | (left; rfl) | (right; simp; omega)) _)))⟩
  rfl

set_option maxHeartbeats 1000000 in
theorem bell_tick_1 (b : Nat) (l d n a r : Int) (m : Bool) (w : World) (hb : Blk w b (BS.cells ⟨l, d, n, a, r, m⟩) 141)
    (n0 : 0 ≤ n) (n1 : n ≤ 4000000000000000000) (a0 : 0 ≤ a) (a1 : a ≤ 4000000000000000000) (r0 : 0 ≤ r) (r1 : r ≤ 4000000000000000000) (hn : n = 0) (hm : m = false) :
    Calls Tryd.prog 23 #[.pointer (some ⟨b, 0, none⟩)] w fun e w' => e = .returned (.tuple #[]) ∧
      Blk w' b (BS.cells ⟨l, d, 0, a, r, m⟩) 141 ∧ Keep (· = b) w w' := by
  have hlt := hb.lt
  have c0 : w.cell? ⟨b, 0, none⟩ = some (.int .i64 l) := hb.cell 0
  have c1 : w.cell? ⟨b, 1, none⟩ = some (.int .i64 d) := hb.cell 1
  have c2 : w.cell? ⟨b, 2, none⟩ = some (.int .i64 n) := hb.cell 2
  have c3 : w.cell? ⟨b, 3, none⟩ = some (.int .i64 a) := hb.cell 3
  have c4 : w.cell? ⟨b, 4, none⟩ = some (.int .i64 r) := hb.cell 4
  have c5 : w.cell? ⟨b, 5, none⟩ = some (.bool m) := hb.cell 5
  have f2 := hb.free 2
  have f3 := hb.free 3
  have f4 := hb.free 4
  have f5 := hb.free 5
  subst hn
  subst hm
  go_enter Tryd.func23, Tryd.ntmps23
  go_wp2
  go_end0
  go_wp2
  go_quiet (fail)
  go_wp2
  go_end0
  go_wp2
  go_end0
  refine ⟨rfl, Blk.of (by (repeat (first | with_reducible assumption | with_reducible apply Blk.drew | with_reducible apply Blk.drewN | with_reducible apply Blk.alloc | with_reducible apply Blk.set | (with_reducible refine Blk.setOther ?_ (by simp; omega) _)))) ?_, by (repeat (first | with_reducible exact Keep.refl _ _ | with_reducible apply Keep.drew | with_reducible apply Keep.drewN | with_reducible apply Keep.alloc | (with_reducible refine Keep.setCell ?_ (by first | (left; rfl) | (right; simp; omega)) _)))⟩
  rfl

set_option maxHeartbeats 1000000 in
theorem bell_tick_m (b : Nat) (l d n a r : Int) (m : Bool) (w : World) (hb : Blk w b (BS.cells ⟨l, d, n, a, r, m⟩) 141)
    (n0 : 0 ≤ n) (n1 : n ≤ 4000000000000000000) (a0 : 0 ≤ a) (a1 : a ≤ 4000000000000000000) (r0 : 0 ≤ r) (r1 : r ≤ 4000000000000000000)  (hn : 0 < n) (hm : m = true) :
    Calls Tryd.prog 23 #[.pointer (some ⟨b, 0, none⟩)] w fun e w' => e = .returned (.tuple #[]) ∧
      Blk w' b (BS.cells ⟨l, d, n, a + 1, r, m⟩) 141 ∧ Keep (· = b) w w' := by
  have hlt := hb.lt
  have c0 : w.cell? ⟨b, 0, none⟩ = some (.int .i64 l) := hb.cell 0
  have c1 : w.cell? ⟨b, 1, none⟩ = some (.int .i64 d) := hb.cell 1
  have c2 : w.cell? ⟨b, 2, none⟩ = some (.int .i64 n) := hb.cell 2
  have c3 : w.cell? ⟨b, 3, none⟩ = some (.int .i64 a) := hb.cell 3
  have c4 : w.cell? ⟨b, 4, none⟩ = some (.int .i64 r) := hb.cell 4
  have c5 : w.cell? ⟨b, 5, none⟩ = some (.bool m) := hb.cell 5
  have f2 := hb.free 2
  have f3 := hb.free 3
  have f4 := hb.free 4
  have f5 := hb.free 5
  have t1 : decide (0 < n) = true := by simp; omega
  subst hm
  go_enter Tryd.func23, Tryd.ntmps23
  go_wp2
  go_end0
  go_wp2
  go_quiet (fail)
  go_wp2
  go_end0
  go_wp2
  go_end0
  refine ⟨rfl, Blk.of (by (repeat (first | with_reducible assumption | with_reducible apply Blk.drew | with_reducible apply Blk.drewN | with_reducible apply Blk.alloc | with_reducible apply Blk.set | (with_reducible refine Blk.setOther ?_ (by simp; omega) _)))) ?_, by (repeat (first | with_reducible exact Keep.refl _ _ | with_reducible apply Keep.drew | with_reducible apply Keep.drewN | with_reducible apply Keep.alloc | (with_reducible refine Keep.setCell ?_ (by first | (left; rfl) | (right; simp; omega)) _)))⟩
  rfl

set_option maxHeartbeats 1000000 in
theorem bell_tick_l (b : Nat) (l d n a r : Int) (m : Bool) (w : World) (hb : Blk w b (BS.cells ⟨l, d, n, a, r, m⟩) 141)
    (n0 : 0 ≤ n) (n1 : n ≤ 4000000000000000000) (a0 : 0 ≤ a) (a1 : a ≤ 4000000000000000000) (r0 : 0 ≤ r) (r1 : r ≤ 4000000000000000000)  (hn : 0 < n) (hm : m = false) (hl : l ≤ n) :
    Calls Tryd.prog 23 #[.pointer (some ⟨b, 0, none⟩)] w fun e w' => e = .returned (.tuple #[]) ∧
      Blk w' b (BS.cells ⟨l, d, 0, 0, r + 1, m⟩) 141 ∧ Keep (· = b) w w' := by
  have hlt := hb.lt
  have c0 : w.cell? ⟨b, 0, none⟩ = some (.int .i64 l) := hb.cell 0
  have c1 : w.cell? ⟨b, 1, none⟩ = some (.int .i64 d) := hb.cell 1
  have c2 : w.cell? ⟨b, 2, none⟩ = some (.int .i64 n) := hb.cell 2
  have c3 : w.cell? ⟨b, 3, none⟩ = some (.int .i64 a) := hb.cell 3
  have c4 : w.cell? ⟨b, 4, none⟩ = some (.int .i64 r) := hb.cell 4
  have c5 : w.cell? ⟨b, 5, none⟩ = some (.bool m) := hb.cell 5
  have f2 := hb.free 2
  have f3 := hb.free 3
  have f4 := hb.free 4
  have f5 := hb.free 5
  have t1 : decide (0 < n) = true := by simp; omega
  have t2 : decide (l ≤ n) = true := by simp; omega
  subst hm
  go_enter Tryd.func23, Tryd.ntmps23
  go_wp2
  go_end0
  go_wp2
  go_quiet (fail)
  go_wp2
  go_end0
  go_wp2
  go_end0
  refine ⟨rfl, Blk.of (by (repeat (first | with_reducible assumption | with_reducible apply Blk.drew | with_reducible apply Blk.drewN | with_reducible apply Blk.alloc | with_reducible apply Blk.set | (with_reducible refine Blk.setOther ?_ (by simp; omega) _)))) ?_, by (repeat (first | with_reducible exact Keep.refl _ _ | with_reducible apply Keep.drew | with_reducible apply Keep.drewN | with_reducible apply Keep.alloc | (with_reducible refine Keep.setCell ?_ (by first | (left; rfl) | (right; simp; omega)) _)))⟩
  rfl

set_option maxHeartbeats 1000000 in
theorem bell_tick_a (b : Nat) (l d n a r : Int) (m : Bool) (w : World) (hb : Blk w b (BS.cells ⟨l, d, n, a, r, m⟩) 141)
    (n0 : 0 ≤ n) (n1 : n ≤ 4000000000000000000) (a0 : 0 ≤ a) (a1 : a ≤ 4000000000000000000) (r0 : 0 ≤ r) (r1 : r ≤ 4000000000000000000)  (hn : 0 < n) (hm : m = false) (hl : ¬ l ≤ n) (ha : d ≤ a + 1) :
    Calls Tryd.prog 23 #[.pointer (some ⟨b, 0, none⟩)] w fun e w' => e = .returned (.tuple #[]) ∧
      Blk w' b (BS.cells ⟨l, d, 0, 0, r + 1, m⟩) 141 ∧ Keep (· = b) w w' := by
  have hlt := hb.lt
  have c0 : w.cell? ⟨b, 0, none⟩ = some (.int .i64 l) := hb.cell 0
  have c1 : w.cell? ⟨b, 1, none⟩ = some (.int .i64 d) := hb.cell 1
  have c2 : w.cell? ⟨b, 2, none⟩ = some (.int .i64 n) := hb.cell 2
  have c3 : w.cell? ⟨b, 3, none⟩ = some (.int .i64 a) := hb.cell 3
  have c4 : w.cell? ⟨b, 4, none⟩ = some (.int .i64 r) := hb.cell 4
  have c5 : w.cell? ⟨b, 5, none⟩ = some (.bool m) := hb.cell 5
  have f2 := hb.free 2
  have f3 := hb.free 3
  have f4 := hb.free 4
  have f5 := hb.free 5
  have t1 : decide (0 < n) = true := by simp; omega
  have t2 : decide (l ≤ n) = false := by simp; omega
  have t3 : decide (d ≤ a + 1) = true := by simp; omega
  subst hm
  go_enter Tryd.func23, Tryd.ntmps23
  go_wp2
  go_end0
  go_wp2
  go_quiet (fail)
  go_wp2
  go_end0
  go_wp2
  go_end0
  refine ⟨rfl, Blk.of (by (repeat (first | with_reducible assumption | with_reducible apply Blk.drew | with_reducible apply Blk.drewN | with_reducible apply Blk.alloc | with_reducible apply Blk.set | (with_reducible refine Blk.setOther ?_ (by simp; omega) _)))) ?_, by (repeat (first | with_reducible exact Keep.refl _ _ | with_reducible apply Keep.drew | with_reducible apply Keep.drewN | with_reducible apply Keep.alloc | (with_reducible refine Keep.setCell ?_ (by first | (left; rfl) | (right; simp; omega)) _)))⟩
  rfl

set_option maxHeartbeats 1000000 in
theorem bell_tick_n (b : Nat) (l d n a r : Int) (m : Bool) (w : World) (hb : Blk w b (BS.cells ⟨l, d, n, a, r, m⟩) 141)
    (n0 : 0 ≤ n) (n1 : n ≤ 4000000000000000000) (a0 : 0 ≤ a) (a1 : a ≤ 4000000000000000000) (r0 : 0 ≤ r) (r1 : r ≤ 4000000000000000000)  (hn : 0 < n) (hm : m = false) (hl : ¬ l ≤ n) (ha : ¬ d ≤ a + 1) :
    Calls Tryd.prog 23 #[.pointer (some ⟨b, 0, none⟩)] w fun e w' => e = .returned (.tuple #[]) ∧
      Blk w' b (BS.cells ⟨l, d, n, a + 1, r, m⟩) 141 ∧ Keep (· = b) w w' := by
  have hlt := hb.lt
  have c0 : w.cell? ⟨b, 0, none⟩ = some (.int .i64 l) := hb.cell 0
  have c1 : w.cell? ⟨b, 1, none⟩ = some (.int .i64 d) := hb.cell 1
  have c2 : w.cell? ⟨b, 2, none⟩ = some (.int .i64 n) := hb.cell 2
  have c3 : w.cell? ⟨b, 3, none⟩ = some (.int .i64 a) := hb.cell 3
  have c4 : w.cell? ⟨b, 4, none⟩ = some (.int .i64 r) := hb.cell 4
  have c5 : w.cell? ⟨b, 5, none⟩ = some (.bool m) := hb.cell 5
  have f2 := hb.free 2
  have f3 := hb.free 3
  have f4 := hb.free 4
  have f5 := hb.free 5
  have t1 : decide (0 < n) = true := by simp; omega
  have t2 : decide (l ≤ n) = false := by simp; omega
  have t3 : decide (d ≤ a + 1) = false := by simp; omega
  subst hm
  go_enter Tryd.func23, Tryd.ntmps23
  go_wp2
  go_end0
  go_wp2
  go_quiet (fail)
  go_wp2
  go_end0
  go_wp2
  go_end0
  refine ⟨rfl, Blk.of (by (repeat (first | with_reducible assumption | with_reducible apply Blk.drew | with_reducible apply Blk.drewN | with_reducible apply Blk.alloc | with_reducible apply Blk.set | (with_reducible refine Blk.setOther ?_ (by simp; omega) _)))) ?_, by (repeat (first | with_reducible exact Keep.refl _ _ | with_reducible apply Keep.drew | with_reducible apply Keep.drewN | with_reducible apply Keep.alloc | (with_reducible refine Keep.setCell ?_ (by first | (left; rfl) | (right; simp; omega)) _)))⟩
  rfl

set_option maxHeartbeats 1000000 in
theorem bell_mask_0 (b : Nat) (l d n a r : Int) (m : Bool) (on : Bool) (w : World) (hb : Blk w b (BS.cells ⟨l, d, n, a, r, m⟩) 141)
    (n0 : 0 ≤ n) (n1 : n ≤ 4000000000000000000) (a0 : 0 ≤ a) (a1 : a ≤ 4000000000000000000) (r0 : 0 ≤ r) (r1 : r ≤ 4000000000000000000) (hn : n = 0) (hm : on = true) :
    Calls Tryd.prog 24 #[.pointer (some ⟨b, 0, none⟩), .bool on] w fun e w' => e = .returned (.tuple #[]) ∧
      Blk w' b (BS.cells ⟨l, d, 0, a, r, on⟩) 141 ∧ Keep (· = b) w w' := by
  have hlt := hb.lt
  have c0 : w.cell? ⟨b, 0, none⟩ = some (.int .i64 l) := hb.cell 0
  have c1 : w.cell? ⟨b, 1, none⟩ = some (.int .i64 d) := hb.cell 1
  have c2 : w.cell? ⟨b, 2, none⟩ = some (.int .i64 n) := hb.cell 2
  have c3 : w.cell? ⟨b, 3, none⟩ = some (.int .i64 a) := hb.cell 3
  have c4 : w.cell? ⟨b, 4, none⟩ = some (.int .i64 r) := hb.cell 4
  have c5 : w.cell? ⟨b, 5, none⟩ = some (.bool m) := hb.cell 5
  have f2 := hb.free 2
  have f3 := hb.free 3
  have f4 := hb.free 4
  have f5 := hb.free 5
  subst hn
  subst hm
  go_enter Tryd.func24, Tryd.ntmps24
  go_wp2
  go_end0
  go_wp2
  go_quiet (fail)
  go_wp2
  go_end0
  go_wp2
  go_end0
  refine ⟨rfl, Blk.of (by (repeat (first | with_reducible assumption | with_reducible apply Blk.drew | with_reducible apply Blk.drewN | with_reducible apply Blk.alloc | with_reducible apply Blk.set | (with_reducible refine Blk.setOther ?_ (by simp; omega) _)))) ?_, by (repeat (first | with_reducible exact Keep.refl _ _ | with_reducible apply Keep.drew | with_reducible apply Keep.drewN | with_reducible apply Keep.alloc | (with_reducible refine Keep.setCell ?_ (by first | (left; rfl) | (right; simp; omega)) _)))⟩
  rfl

set_option maxHeartbeats 1000000 in
theorem bell_mask_1 (b : Nat) (l d n a r : Int) (m : Bool) (on : Bool) (w : World) (hb : Blk w b (BS.cells ⟨l, d, n, a, r, m⟩) 141)
    (n0 : 0 ≤ n) (n1 : n ≤ 4000000000000000000) (a0 : 0 ≤ a) (a1 : a ≤ 4000000000000000000) (r0 : 0 ≤ r) (r1 : r ≤ 4000000000000000000) (hn : n = 0) (hm : on = false) :
    Calls Tryd.prog 24 #[.pointer (some ⟨b, 0, none⟩), .bool on] w fun e w' => e = .returned (.tuple #[]) ∧
      Blk w' b (BS.cells ⟨l, d, 0, a, r, on⟩) 141 ∧ Keep (· = b) w w' := by
  have hlt := hb.lt
  have c0 : w.cell? ⟨b, 0, none⟩ = some (.int .i64 l) := hb.cell 0
  have c1 : w.cell? ⟨b, 1, none⟩ = some (.int .i64 d) := hb.cell 1
  have c2 : w.cell? ⟨b, 2, none⟩ = some (.int .i64 n) := hb.cell 2
  have c3 : w.cell? ⟨b, 3, none⟩ = some (.int .i64 a) := hb.cell 3
  have c4 : w.cell? ⟨b, 4, none⟩ = some (.int .i64 r) := hb.cell 4
  have c5 : w.cell? ⟨b, 5, none⟩ = some (.bool m) := hb.cell 5
  have f2 := hb.free 2
  have f3 := hb.free 3
  have f4 := hb.free 4
  have f5 := hb.free 5
  subst hn
  subst hm
  go_enter Tryd.func24, Tryd.ntmps24
  go_wp2
  go_end0
  go_wp2
  go_quiet (fail)
  go_wp2
  go_end0
  go_wp2
  go_end0
  refine ⟨rfl, Blk.of (by (repeat (first | with_reducible assumption | with_reducible apply Blk.drew | with_reducible apply Blk.drewN | with_reducible apply Blk.alloc | with_reducible apply Blk.set | (with_reducible refine Blk.setOther ?_ (by simp; omega) _)))) ?_, by (repeat (first | with_reducible exact Keep.refl _ _ | with_reducible apply Keep.drew | with_reducible apply Keep.drewN | with_reducible apply Keep.alloc | (with_reducible refine Keep.setCell ?_ (by first | (left; rfl) | (right; simp; omega)) _)))⟩
  rfl

set_option maxHeartbeats 1000000 in
theorem bell_mask_m (b : Nat) (l d n a r : Int) (m : Bool) (on : Bool) (w : World) (hb : Blk w b (BS.cells ⟨l, d, n, a, r, m⟩) 141)
    (n0 : 0 ≤ n) (n1 : n ≤ 4000000000000000000) (a0 : 0 ≤ a) (a1 : a ≤ 4000000000000000000) (r0 : 0 ≤ r) (r1 : r ≤ 4000000000000000000)  (hn : 0 < n) (hm : on = true) :
    Calls Tryd.prog 24 #[.pointer (some ⟨b, 0, none⟩), .bool on] w fun e w' => e = .returned (.tuple #[]) ∧
      Blk w' b (BS.cells ⟨l, d, n, a, r, on⟩) 141 ∧ Keep (· = b) w w' := by
  have hlt := hb.lt
  have c0 : w.cell? ⟨b, 0, none⟩ = some (.int .i64 l) := hb.cell 0
  have c1 : w.cell? ⟨b, 1, none⟩ = some (.int .i64 d) := hb.cell 1
  have c2 : w.cell? ⟨b, 2, none⟩ = some (.int .i64 n) := hb.cell 2
  have c3 : w.cell? ⟨b, 3, none⟩ = some (.int .i64 a) := hb.cell 3
  have c4 : w.cell? ⟨b, 4, none⟩ = some (.int .i64 r) := hb.cell 4
  have c5 : w.cell? ⟨b, 5, none⟩ = some (.bool m) := hb.cell 5
  have f2 := hb.free 2
  have f3 := hb.free 3
  have f4 := hb.free 4
  have f5 := hb.free 5
  have t1 : decide (0 < n) = true := by simp; omega
  subst hm
  go_enter Tryd.func24, Tryd.ntmps24
  go_wp2
  go_end0
  go_wp2
  go_quiet (fail)
  go_wp2
  go_end0
  go_wp2
  go_end0
  refine ⟨rfl, Blk.of (by (repeat (first | with_reducible assumption | with_reducible apply Blk.drew | with_reducible apply Blk.drewN | with_reducible apply Blk.alloc | with_reducible apply Blk.set | (with_reducible refine Blk.setOther ?_ (by simp; omega) _)))) ?_, by (repeat (first | with_reducible exact Keep.refl _ _ | with_reducible apply Keep.drew | with_reducible apply Keep.drewN | with_reducible apply Keep.alloc | (with_reducible refine Keep.setCell ?_ (by first | (left; rfl) | (right; simp; omega)) _)))⟩
  rfl

set_option maxHeartbeats 1000000 in
theorem bell_mask_l (b : Nat) (l d n a r : Int) (m : Bool) (on : Bool) (w : World) (hb : Blk w b (BS.cells ⟨l, d, n, a, r, m⟩) 141)
    (n0 : 0 ≤ n) (n1 : n ≤ 4000000000000000000) (a0 : 0 ≤ a) (a1 : a ≤ 4000000000000000000) (r0 : 0 ≤ r) (r1 : r ≤ 4000000000000000000)  (hn : 0 < n) (hm : on = false) (hl : l ≤ n) :
    Calls Tryd.prog 24 #[.pointer (some ⟨b, 0, none⟩), .bool on] w fun e w' => e = .returned (.tuple #[]) ∧
      Blk w' b (BS.cells ⟨l, d, 0, 0, r + 1, on⟩) 141 ∧ Keep (· = b) w w' := by
  have hlt := hb.lt
  have c0 : w.cell? ⟨b, 0, none⟩ = some (.int .i64 l) := hb.cell 0
  have c1 : w.cell? ⟨b, 1, none⟩ = some (.int .i64 d) := hb.cell 1
  have c2 : w.cell? ⟨b, 2, none⟩ = some (.int .i64 n) := hb.cell 2
  have c3 : w.cell? ⟨b, 3, none⟩ = some (.int .i64 a) := hb.cell 3
  have c4 : w.cell? ⟨b, 4, none⟩ = some (.int .i64 r) := hb.cell 4
  have c5 : w.cell? ⟨b, 5, none⟩ = some (.bool m) := hb.cell 5
  have f2 := hb.free 2
  have f3 := hb.free 3
  have f4 := hb.free 4
  have f5 := hb.free 5
  have t1 : decide (0 < n) = true := by simp; omega
  have t2 : decide (l ≤ n) = true := by simp; omega
  subst hm
  go_enter Tryd.func24, Tryd.ntmps24
  go_wp2
  go_end0
  go_wp2
  go_quiet (fail)
  go_wp2
  go_end0
  go_wp2
  go_end0
  refine ⟨rfl, Blk.of (by (repeat (first | with_reducible assumption | with_reducible apply Blk.drew | with_reducible apply Blk.drewN | with_reducible apply Blk.alloc | with_reducible apply Blk.set | (with_reducible refine Blk.setOther ?_ (by simp; omega) _)))) ?_, by (repeat (first | with_reducible exact Keep.refl _ _ | with_reducible apply Keep.drew | with_reducible apply Keep.drewN | with_reducible apply Keep.alloc | (with_reducible refine Keep.setCell ?_ (by first | (left; rfl) | (right; simp; omega)) _)))⟩
  rfl

set_option maxHeartbeats 1000000 in
theorem bell_mask_a (b : Nat) (l d n a r : Int) (m : Bool) (on : Bool) (w : World) (hb : Blk w b (BS.cells ⟨l, d, n, a, r, m⟩) 141)
    (n0 : 0 ≤ n) (n1 : n ≤ 4000000000000000000) (a0 : 0 ≤ a) (a1 : a ≤ 4000000000000000000) (r0 : 0 ≤ r) (r1 : r ≤ 4000000000000000000)  (hn : 0 < n) (hm : on = false) (hl : ¬ l ≤ n) (ha : d ≤ a) :
    Calls Tryd.prog 24 #[.pointer (some ⟨b, 0, none⟩), .bool on] w fun e w' => e = .returned (.tuple #[]) ∧
      Blk w' b (BS.cells ⟨l, d, 0, 0, r + 1, on⟩) 141 ∧ Keep (· = b) w w' := by
  have hlt := hb.lt
  have c0 : w.cell? ⟨b, 0, none⟩ = some (.int .i64 l) := hb.cell 0
  have c1 : w.cell? ⟨b, 1, none⟩ = some (.int .i64 d) := hb.cell 1
  have c2 : w.cell? ⟨b, 2, none⟩ = some (.int .i64 n) := hb.cell 2
  have c3 : w.cell? ⟨b, 3, none⟩ = some (.int .i64 a) := hb.cell 3
  have c4 : w.cell? ⟨b, 4, none⟩ = some (.int .i64 r) := hb.cell 4
  have c5 : w.cell? ⟨b, 5, none⟩ = some (.bool m) := hb.cell 5
  have f2 := hb.free 2
  have f3 := hb.free 3
  have f4 := hb.free 4
  have f5 := hb.free 5
  have t1 : decide (0 < n) = true := by simp; omega
  have t2 : decide (l ≤ n) = false := by simp; omega
  have t3 : decide (d ≤ a) = true := by simp; omega
  subst hm
  go_enter Tryd.func24, Tryd.ntmps24
  go_wp2
  go_end0
  go_wp2
  go_quiet (fail)
  go_wp2
  go_end0
  go_wp2
  go_end0
  refine ⟨rfl, Blk.of (by (repeat (first | with_reducible assumption | with_reducible apply Blk.drew | with_reducible apply Blk.drewN | with_reducible apply Blk.alloc | with_reducible apply Blk.set | (with_reducible refine Blk.setOther ?_ (by simp; omega) _)))) ?_, by (repeat (first | with_reducible exact Keep.refl _ _ | with_reducible apply Keep.drew | with_reducible apply Keep.drewN | with_reducible apply Keep.alloc | (with_reducible refine Keep.setCell ?_ (by first | (left; rfl) | (right; simp; omega)) _)))⟩
  rfl

set_option maxHeartbeats 1000000 in
theorem bell_mask_n (b : Nat) (l d n a r : Int) (m : Bool) (on : Bool) (w : World) (hb : Blk w b (BS.cells ⟨l, d, n, a, r, m⟩) 141)
    (n0 : 0 ≤ n) (n1 : n ≤ 4000000000000000000) (a0 : 0 ≤ a) (a1 : a ≤ 4000000000000000000) (r0 : 0 ≤ r) (r1 : r ≤ 4000000000000000000)  (hn : 0 < n) (hm : on = false) (hl : ¬ l ≤ n) (ha : ¬ d ≤ a) :
    Calls Tryd.prog 24 #[.pointer (some ⟨b, 0, none⟩), .bool on] w fun e w' => e = .returned (.tuple #[]) ∧
      Blk w' b (BS.cells ⟨l, d, n, a, r, on⟩) 141 ∧ Keep (· = b) w w' := by
  have hlt := hb.lt
  have c0 : w.cell? ⟨b, 0, none⟩ = some (.int .i64 l) := hb.cell 0
  have c1 : w.cell? ⟨b, 1, none⟩ = some (.int .i64 d) := hb.cell 1
  have c2 : w.cell? ⟨b, 2, none⟩ = some (.int .i64 n) := hb.cell 2
  have c3 : w.cell? ⟨b, 3, none⟩ = some (.int .i64 a) := hb.cell 3
  have c4 : w.cell? ⟨b, 4, none⟩ = some (.int .i64 r) := hb.cell 4
  have c5 : w.cell? ⟨b, 5, none⟩ = some (.bool m) := hb.cell 5
  have f2 := hb.free 2
  have f3 := hb.free 3
  have f4 := hb.free 4
  have f5 := hb.free 5
  have t1 : decide (0 < n) = true := by simp; omega
  have t2 : decide (l ≤ n) = false := by simp; omega
  have t3 : decide (d ≤ a) = false := by simp; omega
  subst hm
  go_enter Tryd.func24, Tryd.ntmps24
  go_wp2
  go_end0
  go_wp2
  go_quiet (fail)
  go_wp2
  go_end0
  go_wp2
  go_end0
  refine ⟨rfl, Blk.of (by (repeat (first | with_reducible assumption | with_reducible apply Blk.drew | with_reducible apply Blk.drewN | with_reducible apply Blk.alloc | with_reducible apply Blk.set | (with_reducible refine Blk.setOther ?_ (by simp; omega) _)))) ?_, by (repeat (first | with_reducible exact Keep.refl _ _ | with_reducible apply Keep.drew | with_reducible apply Keep.drewN | with_reducible apply Keep.alloc | (with_reducible refine Keep.setCell ?_ (by first | (left; rfl) | (right; simp; omega)) _)))⟩
  rfl

end Go.Proofs.YtkehhfgoikbciaaDoor
