/- pick.New; slices.Clone of a row of integers. -/
import Derived.Test.YtkehhfgoikbciaaDoorPickNext
import Derived.Deep.RegionHeld3
import Derived.Deep.OwnRows
import Derived.WalkSpells
import Derived.Lib.SliceRun
namespace Go.Proofs.YtkehhfgoikbciaaDoor
open Go.RowKit Go.Shelf
set_option linter.unusedVariables false

theorem add_plain' (b off j : Nat) : (⟨b, off, none⟩ : Addr).add j = ⟨b, off + j, none⟩ := by
  unfold Addr.add
  split
  · subst_vars; simp
  · rfl
/-- n integers stand in a new block -/
def RowPost (n : Nat) (z : Nat → Int) (w : World) (e : Ending) (w' : World) : Prop :=
  ∃ g cap, e = .returned (.slice (some ⟨g, 0, none⟩) n cap) ∧ w.heap.size ≤ g ∧ g < w'.heap.size ∧ (∀ i, i < n → w'.cell? ⟨g, i, none⟩ = some (.int .i64 (z i))) ∧ Below w.heap.size w w'

set_option maxHeartbeats 1000000 in
theorem clone_row (b off n c : Nat) (z : Nat → Int) (w : World) (h0 : 0 < n) (hbig : n * 8 ≤ 140737488351232) (hc : ∀ i, i < n → w.cell? ⟨b, off + i, none⟩ = some (.int .i64 (z i))) :
    Calls Tryd.prog 93 #[.slice (some ⟨b, off, none⟩) n c] w (RowPost n z w) := by
  obtain ⟨i0, hi, hz0, hz1, hz2⟩ := info_parts (P := Tryd.prog) (e := 3) (z := .int .i64 0) (size := 1) (bytes := 8) (by kernel_rfl)
  have q22 : ∀ (w : World) (a : Option Addr) (n c n' c' : Nat), (binOp .eql 30 (.slice a n c) (.slice none n' c')).run Tryd.prog w = .ok (.bool a.isNone) w := fun w a n c n' c' => Lib.run_eql_slice_nil w _ _ a n c n' c' Tryd.underlying30
  have A := Lib.hid hc
  clear hc
  go_enter Tryd.func93, Tryd.ntmps93
  go_wp2_with (at_builtin; refine wpList_append_own _ rfl _ _ 30 rfl w.heap.size 3 i0 (.int .i64 0) 1 8 Tryd.underlying30 hi hz0 hz1 hz2 rfl (by decide) _ _ _ rfl (World.ownsRow_made w #[] 0 (Nat.le_refl _) (Nat.zero_le _) rfl) ⟨b, off, none⟩ n c ((List.range n).map fun i => Value.int .i64 (z i)) rfl ?qc1 ?qc2 ?qc3 ?qc4 ?qc5 ?qc6 ?_)
  case qc1 => simp
  case qc2 =>
    intro j u hj
    have hjn : j < n := by
      have := (List.getElem?_eq_some_iff.1 hj).1
      simpa using this
    refine Lib.cell?_alloc_some _ ?_
    rw [add_plain' b off j, A.out j hjn]
    simpa [hjn] using hj
  case qc3 => intro u hu; obtain ⟨x, _, rfl⟩ := List.mem_map.1 hu; rfl
  case qc4 => unfold maxLen; omega
  case qc5 => omega
  case qc6 => simp
  intro v' w1 hown hgrow hnil
  go_wp2
  go_ret
  have hb : Below w.heap.size w w1 := ((Below.refl _ w).alloc (Nat.le_refl _) _).grown hgrow (by simp) (by intro k hk; simp [Value.ownBlock] at hk; omega)
  have hown : w1.ownsRow w.heap.size 3 1 v' n ((List.range n).map fun i => Value.int .i64 (z i)) := by simpa using hown
  obtain ⟨hl, h | ⟨g, cap, cur, rfl, h1, h2, h3, h4, h5, h6⟩⟩ := hown
  · omega
  · refine ⟨g, cap, rfl, h1, (Array.getElem?_eq_some_iff.1 h2).1, fun i hi => ?_, hb⟩
    have e : w1.cell? ⟨g, i, none⟩ = cur[i]? := by simp [World.cell?, h2]
    rw [e]
    have e2 : (cur.toList.take (n * 1))[i]? = some (Value.int .i64 (z i)) := by rw [h6]; simp [hi]
    simpa [List.getElem?_take, hi] using e2

def NewPost (n : Nat) (z : Nat → Int) (w : World) (e : Ending) (w' : World) : Prop :=
  ∃ b g cap, e = .returned (.tuple #[.pointer (some ⟨b, 0, none⟩), .nilIface]) ∧ w.heap.size ≤ b ∧ w.heap.size ≤ g ∧ PickAt w' b g cap n z 0 (z 0) ∧ PickFit n z 0 (z 0) ∧ Below w.heap.size w w'

set_option maxRecDepth 100000 in
set_option maxHeartbeats 2000000 in
theorem new_ok (b off n c : Nat) (z : Nat → Int) (w : World) (h0 : 0 < n) (h8 : n ≤ 8) (hc : ∀ i, i < n → w.cell? ⟨b, off + i, none⟩ = some (.int .i64 (z i))) (hw : ∀ i, i < n → 1 ≤ z i ∧ z i ≤ 16) :
    Calls Tryd.prog 55 #[.slice (some ⟨b, off, none⟩) n c] w (NewPost n z w) := by
  have A := Lib.hid hc
  have hc0 := hc 0 h0
  rw [Nat.add_zero] at hc0
  have hbl : b < w.heap.size := by
    by_cases q : b < w.heap.size
    · exact q
    · unfold World.cell? at hc0
      rw [Array.getElem?_eq_none (by simp only; omega)] at hc0; cases hc0
  have W := Lib.hid hw
  clear hc hw
  go_enter Tryd.func55, Tryd.ntmps55
  go_wp2_with fail
  refine (min_row b off n c z _ h0 (by omega) A.out).mono ?_
  rintro e w' ⟨m1, hm1, rfl, rfl⟩
  have t1 : decide (m1 < 1) = false := by
    obtain ⟨i, hi, rfl⟩ := hm1.2
    have := (W.out i hi).1
    simp; omega
  clear hm1
  go_wp2_with fail
  refine (max_row b off n c z _ h0 (by omega) A.out).mono ?_
  rintro e w' ⟨m2, hm2, rfl, rfl⟩
  have t2 : decide (16 < m2) = false := by
    obtain ⟨i, hi, rfl⟩ := hm2.2
    have := (W.out i hi).2
    simp; omega
  clear hm2
  go_wp2_with fail
  have A2 := Lib.hid (show ∀ i, i < n → w.drew.cell? ⟨b, off + i, none⟩ = some (.int .i64 (z i)) from A.out)
  have hc1 : w.drew.cell? ⟨b, off, none⟩ = some (.int .i64 (z 0)) := hc0
  go_region_held3 (fun w' => w'.cell? ⟨b, off, none⟩ = some (.int .i64 (z 0))) (go_keep) (first | (go_at_call 93; refine (clone_row b off n c z _ h0 (by omega) A2.out).mono ?_; rintro e w' ⟨g, cap, rfl, hg1, hg2, hg3, hg4⟩; have hkeep := (hg4.cell (p := ⟨b, off, none⟩) hbl).trans hc1))
  go_wp2
  go_ret2
  have hs : w.heap.size ≤ w'.heap.size := hg4.size
  refine ⟨w'.heap.size, g, cap, rfl, hs, hg1, ⟨Blk.new _ _ _, by omega, by simp; omega, fun i hi => ?_⟩, ⟨h0, h8, W.out, h0, by have := (W.out 0 h0).1; omega, (W.out 0 h0).2⟩, ?_⟩
  · rw [World.cell?_alloc_lt _ _ _ (by simpa using hg2)]; exact hg3 i hi
  · exact (show Below w.heap.size w w' from ⟨hg4.os, hg4.tape, hg4.output, hg4.size, hg4.block⟩).alloc hs _

theorem new_none (a : Option Addr) (c : Nat) (w : World) :
    Calls Tryd.prog 55 #[.slice a 0 c] w fun e w' => e = .returned (.tuple #[.pointer none, .iface 29 (.int .i64 2)]) ∧ w = w' := by
  go_enter Tryd.func55, Tryd.ntmps55
  go_wp2
  go_ret2
  exact ⟨rfl, rfl⟩
theorem new_full (a : Option Addr) (n c : Nat) (w : World) (h8 : 8 < n) (hm : n ≤ 9223372036854775807) :
    Calls Tryd.prog 55 #[.slice a n c] w fun e w' => e = .returned (.tuple #[.pointer none, .iface 29 (.int .i64 3)]) ∧ w = w' := by
  have t0 : ((n : Int) == 0) = false := by simp; omega
  have t1 : decide ((8 : Int) < (n : Int)) = true := by simp; omega
  go_enter Tryd.func55, Tryd.ntmps55
  go_wp2
  go_ret2
  exact ⟨rfl, rfl⟩
set_option maxHeartbeats 1000000 in
theorem new_range (b off n c : Nat) (z : Nat → Int) (w : World) (h0 : 0 < n) (h8 : n ≤ 8) (hc : ∀ i, i < n → w.cell? ⟨b, off + i, none⟩ = some (.int .i64 (z i))) (hw : ∃ i, i < n ∧ (z i < 1 ∨ 16 < z i)) :
    Calls Tryd.prog 55 #[.slice (some ⟨b, off, none⟩) n c] w fun e w' => e = .returned (.tuple #[.pointer none, .iface 29 (.int .i64 1)]) ∧ w = w' := by
  have A := Lib.hid hc
  have W := Lib.hid hw
  have t0 : ((n : Int) == 0) = false := by simp; omega
  have t1 : decide ((8 : Int) < (n : Int)) = false := by simp; omega
  clear hc hw
  by_cases hlow : ∃ i, i < n ∧ z i < 1
  · have Hl := Lib.hid hlow
    clear hlow
    go_enter Tryd.func55, Tryd.ntmps55
    go_wp2_with fail
    refine (min_row b off n c z _ h0 (by omega) A.out).mono ?_
    rintro e w' ⟨m1, hm1, rfl, rfl⟩
    have t2 : decide (m1 < 1) = true := by
      obtain ⟨i, hi, h⟩ := Hl.out
      have := hm1.1 i hi
      simp; omega
    clear hm1
    go_wp2
    go_ret2
    exact ⟨rfl, rfl⟩
  · have Hl := Lib.hid hlow
    clear hlow
    go_enter Tryd.func55, Tryd.ntmps55
    go_wp2_with fail
    refine (min_row b off n c z _ h0 (by omega) A.out).mono ?_
    rintro e w' ⟨m1, hm1, rfl, rfl⟩
    have t2 : decide (m1 < 1) = false := by
      obtain ⟨i, hi, rfl⟩ := hm1.2
      have := Hl.out
      simp only [not_exists, not_and] at this
      have := this i hi
      simp; omega
    clear hm1
    go_wp2_with fail
    refine (max_row b off n c z _ h0 (by omega) A.out).mono ?_
    rintro e w' ⟨m2, hm2, rfl, rfl⟩
    have t3 : decide (16 < m2) = true := by
      obtain ⟨i, hi, h⟩ := W.out
      have h2 := hm2.1 i hi
      have h3 := Hl.out
      simp only [not_exists, not_and] at h3
      have h4 := h3 i hi
      simp; omega
    clear hm2
    go_wp2
    go_ret2
    exact ⟨rfl, rfl⟩
end Go.Proofs.YtkehhfgoikbciaaDoor
