/- Contracts of ring.Ring: Push, Pop, Len, Ends. -/
import Derived.Test.YtkehhfgoikbciaaDoorRing
import Derived.BigQuiet
import Derived.IntWalk
import Derived.Deep.QuietTactic
namespace Go.Proofs.YtkehhfgoikbciaaDoor
open Go.RowKit Go.WideShapes
set_option linter.unusedVariables false

theorem mod_two {a n : Nat} (h : a < 2 * n) : a % n = if a < n then a else a - n := by
  split
  · exact Nat.mod_eq_of_lt ‹_›
  · rw [Nat.mod_eq_sub_mod (by omega), Nat.mod_eq_of_lt (by omega)]
theorem full_iff {n h k : Nat} (hh : h < n) (hk : k ≤ n - 1) (hn : 2 ≤ n) : ((h + k) % n + 1) % n = h ↔ k = n - 1 := by
  rw [mod_two (show h + k < 2 * n by omega)]
  split
  · rw [mod_two (show h + k + 1 < 2 * n by omega)]; split <;> omega
  · rw [mod_two (show h + k - n + 1 < 2 * n by omega)]; split <;> omega
theorem empty_iff {n h k : Nat} (hh : h < n) (hk : k ≤ n - 1) (hn : 2 ≤ n) : h = (h + k) % n ↔ k = 0 := by
  rw [mod_two (show h + k < 2 * n by omega)]
  split <;> omega

theorem RingAt.keep {w w' : World} {b sb n h : Nat} {l : List Int} {S : Nat → Prop} (hr : RingAt w b sb n h l) (hk : Keep S w w') (h1 : ¬ S b) (h2 : ¬ S sb) : RingAt w' b sb n h l := by
  obtain ⟨g1, ⟨sl, g2, g3, g4⟩, g5, g6, g7, g8, g9⟩ := hr
  exact ⟨hk.blk g1 h1, ⟨sl, hk.blk g2 h2, g3, g4⟩, g5, g6, g7, g8, g9⟩
theorem RingAt.below {w w' : World} {b sb n h : Nat} {l : List Int} (hr : RingAt w b sb n h l) (hb : Below w.heap.size w w') : RingAt w' b sb n h l :=
  hr.keep (S := fun _ => False) (Keep.ofBelow hb (fun k h1 h2 => absurd h1 (by omega))) (fun h => h) (fun h => h)
theorem RingAt.drewN {w : World} {b sb n h : Nat} {l : List Int} (hr : RingAt w b sb n h l) (q : Nat) : RingAt (w.drewN q) b sb n h l := hr.keep (S := fun _ => False) (Keep.drewN (Keep.refl _ _) q) (fun h => h) (fun h => h)
theorem RingAt.drew {w : World} {b sb n h : Nat} {l : List Int} (hr : RingAt w b sb n h l) : RingAt w.drew b sb n h l := hr.drewN 1

theorem ring_push_full (b sb n h : Nat) (l : List Int) (x : Int) (w : World) (hr : RingAt w b sb n h l) (hl : l.length = n - 1) :
    Calls Tryd.prog 29 #[.pointer (some ⟨b, 0, none⟩), .int .i64 x] w fun e w' => e = .returned (rgErr 3) ∧ ∃ q, w' = w.drewN q := by
  have hf := (full_iff hr.hn hr.few hr.n2).2 hl
  have hd : decide (((h + l.length) % n + 1) % n = h) = true := by simpa using hf
  have Hd := Lib.hid hd
  have Hr := Lib.hid hr
  have h0 := hr.n2
  have h1 := hr.n16
  clear hf hd hr hl
  go_enter Tryd.func29, Tryd.ntmps29
  go_wp2_with fail
  refine (ring_full b sb n h _ _ Hr.out.head (by omega) h1 (Nat.mod_lt _ (by omega)) Hr.out.hn).mono ?_
  rw [Hd.out]
  rintro e w' ⟨rfl, q, rfl⟩
  go_wp2
  go_ret
  exact ⟨rfl, q, rfl⟩

set_option maxRecDepth 100000 in
set_option maxHeartbeats 2000000 in
theorem ring_push_ok (b sb n h : Nat) (l : List Int) (x : Int) (w : World) (hr : RingAt w b sb n h l) (hl : l.length < n - 1) :
    Calls Tryd.prog 29 #[.pointer (some ⟨b, 0, none⟩), .int .i64 x] w fun e w' => e = .returned .nilIface ∧ RingAt w' b sb n h (l ++ [x]) ∧ Keep (fun k => k = b ∨ k = sb) w w' := by
  have hf : ¬ ((h + l.length) % n + 1) % n = h := fun e => by have := (full_iff hr.hn hr.few hr.n2).1 e; omega
  have hd : decide (((h + l.length) % n + 1) % n = h) = false := by simpa using hf
  have Hd := Lib.hid hd
  have Hr := Lib.hid hr
  have h0 := hr.n2
  have h1 := hr.n16
  have htn : (h + l.length) % n < n := Nat.mod_lt _ (by omega)
  clear hf hd hr
  go_enter Tryd.func29, Tryd.ntmps29
  go_wp2_with fail
  refine (ring_full b sb n h _ _ Hr.out.head (by omega) h1 htn Hr.out.hn).mono ?_
  rw [Hd.out]
  rintro e w' ⟨rfl, q, rfl⟩
  go_wp2_with fail
  refine wp_still_tail 12 (by kernel_rfl) (by kernel_rfl) ?_
  intro W hW
  have Hr2 := Lib.hid (show RingAt W b sb n h l by subst hW; exact (Hr.out.drewN q).drew)
  have Hk2 := Lib.hid (show Keep (fun k => k = b ∨ k = sb) w W by subst hW; exact ((Keep.refl _ _).drewN q).drew)
  clear hW
  obtain ⟨hhead, ⟨sl, hsl, hsn, hslots⟩, hap, hfew, hhn, _, _⟩ := Hr2.out
  generalize ht : (h + l.length) % n = t at *
  have HT := Lib.hid ht
  clear ht
  have c0 : W.cell? ⟨b, 0, none⟩ = some (.slice (some ⟨sb, 0, none⟩) n n) := hhead.cell 0
  have c2 : W.cell? ⟨b, 2, none⟩ = some (.int .i64 t) := hhead.cell 2
  have cs : W.cell? ⟨sb, t, none⟩ = some (.int .i64 (sl[t]'(by omega))) := by rw [hsl.cell]; simp
  have fs : W.frozen? ⟨sb, t, none⟩ = false := hsl.free t
  have Hhead := Lib.hid hhead
  have Hsl := Lib.hid hsl
  have Hslots := Lib.hid hslots
  have Hsn := Lib.hid hsn
  generalize sl[t]'_ = old at cs
  clear hhead hsl hslots hsn Hr Hr2
  simp only [List.take_succ_cons, List.take_zero, List.drop_succ_cons, List.drop_zero]
  iterate 12 still_step
  refine wpStill_nil ?_
  go_wp2_with fail
  have Hhead2 := Lib.hid (Hhead.out.setOther (a := ⟨sb, t, none⟩) (fun e => hap e.symm) (.int .i64 x))
  have Hsl2 := Lib.hid (Hsl.out.set t (.int .i64 x))
  have Hk3 := Lib.hid (Hk2.out.setCell (p := ⟨sb, t, none⟩) (.inl (.inr rfl)) (.int .i64 x))
  clear c0 c2 cs fs Hhead Hsl Hk2
  generalize W.setCell ⟨sb, t, none⟩ (.int .i64 x) = W2 at *
  refine wp_still_tail 13 (by kernel_rfl) (by kernel_rfl) ?_
  intro W3 hW3
  have Hhead3 := Lib.hid (show Blk W3 b (ringCells sb n h t) 146 by subst hW3; exact Hhead2.out.drew)
  have Hsl3 := Lib.hid (show Blk W3 sb ((sl.map (Value.int .i64)).toArray.setIfInBounds t (.int .i64 x)) 3 by subst hW3; exact Hsl2.out.drew)
  have Hk4 := Lib.hid (show Keep (fun k => k = b ∨ k = sb) w W3 by subst hW3; exact Hk3.out.drew)
  clear hW3 Hhead2 Hsl2 Hk3
  have c0 : W3.cell? ⟨b, 0, none⟩ = some (.slice (some ⟨sb, 0, none⟩) n n) := Hhead3.out.cell 0
  have c2 : W3.cell? ⟨b, 2, none⟩ = some (.int .i64 t) := Hhead3.out.cell 2
  have f2 : W3.frozen? ⟨b, 2, none⟩ = false := Hhead3.out.free 2
  simp only [List.take_succ_cons, List.take_zero, List.drop_succ_cons, List.drop_zero]
  iterate 9 still_step
  obtain ⟨m, hm⟩ : ∃ m, m = (t + 1) % n := ⟨_, rfl⟩
  have Hm := Lib.hid hm
  have haft := ring_after b sb n h t t _ Hhead3.out (by omega) h1 (by omega)
  rw [← hm] at haft
  have Haft := Lib.hid haft
  clear haft hm
  still_call (Haft.out)
  iterate 3 still_step
  refine wpStill_nil ?_
  go_wp2
  go_ret
  refine ⟨rfl, ⟨?_, ⟨sl.set t x, ?_, by simp; exact Hsn.out, ?_⟩, hap, by simp; omega, hhn, h0, h1⟩, Hk4.out.setCell (.inl (.inl rfl)) _⟩
  · refine (Hhead3.out.set 2 _).of ?_
    have e : (h + (l ++ [x]).length) % n = m := by
      rw [Hm.out, ← HT.out, Nat.mod_add_mod]
      congr 1
      simp; omega
    rw [e]
    rfl
  · refine (Hsl3.out.setOther (by simpa using hap) _).of ?_
    simp [List.map_set]
  · intro i hi
    simp at hi
    by_cases e : i = l.length
    · subst e
      have e2 : (h + l.length) % n = t := HT.out
      rw [e2]
      have : t < sl.length := by have := Hsn.out; omega
      simp [List.getD, this]
    · have hi2 : i < l.length := by omega
      have ne : t ≠ (h + i) % n := by
        rw [← HT.out, mod_two (show h + l.length < 2 * n by omega), mod_two (show h + i < 2 * n by omega)]
        split <;> split <;> omega
      have := Hslots.out i hi2
      simp [List.getD, List.getElem?_append, hi2, ne] at this ⊢
      exact this

theorem ring_pop_none (b sb n h : Nat) (w : World) (hr : RingAt w b sb n h []) :
    Calls Tryd.prog 30 #[.pointer (some ⟨b, 0, none⟩)] w fun e w' => e = .returned (.tuple #[.int .i64 0, rgErr 4]) ∧ ∃ q, w' = w.drewN q := by
  have e : (h + ([] : List Int).length) % n = h := by simp; exact Nat.mod_eq_of_lt hr.hn
  have hh := hr.head
  rw [e] at hh
  have c1 : w.cell? ⟨b, 1, none⟩ = some (.int .i64 h) := hh.cell 1
  have c2 : w.cell? ⟨b, 2, none⟩ = some (.int .i64 h) := hh.cell 2
  clear hh e hr
  go_enter Tryd.func30, Tryd.ntmps30
  go_wp2
  go_quiet (fail)
  go_wp2
  go_ret2
  exact ⟨rfl, _, rfl⟩

set_option maxRecDepth 100000 in
set_option maxHeartbeats 2000000 in
theorem ring_pop_ok (b sb n h : Nat) (x : Int) (l : List Int) (w : World) (hr : RingAt w b sb n h (x :: l)) :
    Calls Tryd.prog 30 #[.pointer (some ⟨b, 0, none⟩)] w fun e w' => e = .returned (.tuple #[.int .i64 x, .nilIface]) ∧ RingAt w' b sb n ((h + 1) % n) l ∧ Keep (· = b) w w' := by
  have hne : ¬ h = (h + (x :: l).length) % n := fun e => by have := (empty_iff hr.hn hr.few hr.n2).1 e; simp at this
  obtain ⟨hhead, ⟨sl, hsl, hsn, hslots⟩, hap, hfew, hhn, h0, h1⟩ := hr
  have htn : (h + (x :: l).length) % n < n := Nat.mod_lt _ (by omega)
  generalize ht : (h + (x :: l).length) % n = t at *
  have HT := Lib.hid ht
  have c0 : w.cell? ⟨b, 0, none⟩ = some (.slice (some ⟨sb, 0, none⟩) n n) := hhead.cell 0
  have c1 : w.cell? ⟨b, 1, none⟩ = some (.int .i64 h) := hhead.cell 1
  have c2 : w.cell? ⟨b, 2, none⟩ = some (.int .i64 t) := hhead.cell 2
  have hx : sl.getD h 0 = x := by
    have := hslots 0 (by simp)
    rw [Nat.add_zero, Nat.mod_eq_of_lt hhn] at this
    simpa using this
  have cs : w.cell? ⟨sb, h, none⟩ = some (.int .i64 x) := by
    rw [hsl.cell]
    have : h < sl.length := by omega
    simp [List.getD, this] at hx
    simp [this, hx]
  have d0 : ((h : Int) == (t : Int)) = false := by simp; omega
  have d1 : (h == t) = false := by simpa using hne
  have Hhead := Lib.hid hhead
  have Hslots := Lib.hid hslots
  have Hsn := Lib.hid hsn
  have Hsl := Lib.hid hsl
  have hbl := hhead.lt
  clear ht hhead hslots hsn hsl hne hx
  go_enter Tryd.func30, Tryd.ntmps30
  go_wp2
  go_quiet (fail)
  have Hk0 := Lib.hid (show Keep (· = b) w (w.drewN nq) by (repeat (first | with_reducible exact Keep.refl _ _ | with_reducible apply Keep.drew | with_reducible apply Keep.drewN | with_reducible apply Keep.alloc | (with_reducible refine Keep.setCell ?_ (by first | (left; rfl) | (right; simp; omega)) _))))
  have Hhead0 := Lib.hid (show Blk (w.drewN nq) b (ringCells sb n h t) 146 from Hhead.out)
  have Hsl0 := Lib.hid (show Blk (w.drewN nq) sb (sl.map (Value.int .i64)).toArray 3 from Hsl.out)
  have c0' : (w.drewN nq).cell? ⟨b, 0, none⟩ = some (.slice (some ⟨sb, 0, none⟩) n n) := c0
  have c1' : (w.drewN nq).cell? ⟨b, 1, none⟩ = some (.int .i64 h) := c1
  have cs' : (w.drewN nq).cell? ⟨sb, h, none⟩ = some (.int .i64 x) := cs
  clear c0 c1 c2 cs Hhead Hsl
  generalize w.drewN nq = W1 at *
  go_wp2
  go_quiet (fail)
  have Hk2 := Lib.hid (show Keep (· = b) w (W1.drewN nq) from Hk0.out.drewN _)
  have Hhead1 := Lib.hid (show Blk (W1.drewN nq) b (ringCells sb n h t) 146 from Hhead0.out)
  have Hsl1 := Lib.hid (show Blk (W1.drewN nq) sb (sl.map (Value.int .i64)).toArray 3 from Hsl0.out)
  clear c0' c1' cs' Hhead0 Hsl0 Hk0
  generalize W1.drewN nq = W2 at *
  go_wp2_with fail
  refine wp_still_tail 13 (by kernel_rfl) (by kernel_rfl) ?_
  intro W3 hW3
  have Hhead3 := Lib.hid (show Blk W3 b (ringCells sb n h t) 146 by subst hW3; exact Hhead1.out.drew)
  have Hsl3 := Lib.hid (show Blk W3 sb (sl.map (Value.int .i64)).toArray 3 by subst hW3; exact Hsl1.out.drew)
  have Hk4 := Lib.hid (show Keep (· = b) w W3 by subst hW3; exact Hk2.out.drew)
  clear hW3 Hhead1 Hsl1 Hk2
  have c0 : W3.cell? ⟨b, 0, none⟩ = some (.slice (some ⟨sb, 0, none⟩) n n) := Hhead3.out.cell 0
  have c1 : W3.cell? ⟨b, 1, none⟩ = some (.int .i64 h) := Hhead3.out.cell 1
  have f1 : W3.frozen? ⟨b, 1, none⟩ = false := Hhead3.out.free 1
  simp only [List.take_succ_cons, List.take_zero, List.drop_succ_cons, List.drop_zero]
  iterate 9 still_step
  obtain ⟨m, hm⟩ : ∃ m, m = (h + 1) % n := ⟨_, rfl⟩
  have Hm := Lib.hid hm
  have haft := ring_after b sb n h t h _ Hhead3.out (by omega) h1 (by omega)
  rw [← hm] at haft
  have Haft := Lib.hid haft
  clear haft hm
  still_call (Haft.out)
  iterate 3 still_step
  refine wpStill_nil ?_
  go_wp2
  go_ret2
  refine ⟨rfl, ⟨?_, ⟨sl, Hsl3.out.setOther (by simpa using hap) _, Hsn.out, ?_⟩, hap, by simp at hfew; omega, Nat.mod_lt _ (by omega), h0, h1⟩, Hk4.out.setCell (.inl rfl) _⟩
  · refine (Hhead3.out.set 1 _).of ?_
    have e : ((h + 1) % n + l.length) % n = t := by
      rw [← HT.out, Nat.mod_add_mod]
      congr 1
      simp; omega
    rw [e, Hm.out]
    rfl
  · intro i hi
    have := Hslots.out (i + 1) (by simp; omega)
    rw [Nat.mod_add_mod, show h + 1 + i = h + (i + 1) by omega]
    simpa using this

theorem ring_len (b sb n h : Nat) (l : List Int) (w : World) (hr : RingAt w b sb n h l) :
    Calls Tryd.prog 31 #[.pointer (some ⟨b, 0, none⟩)] w fun e w' => e = .returned (.int .i64 l.length) ∧ ∃ q, w' = w.drewN q := by
  obtain ⟨hhead, _, hap, hfew, hhn, h0, h1⟩ := hr
  have e : (((h + l.length) % n : Nat) : Int) - h + n = (((h + l.length) % n + n - h : Nat) : Int) := by omega
  have e2 : ((h + l.length) % n + n - h) % n = l.length := by
    rw [mod_two (show h + l.length < 2 * n by omega)]
    split
    · rw [show h + l.length + n - h = l.length + n by omega, Nat.add_mod_right, Nat.mod_eq_of_lt (by omega)]
    · rw [show h + l.length - n + n - h = l.length by omega, Nat.mod_eq_of_lt (by omega)]
  have htn : (h + l.length) % n < n := Nat.mod_lt _ (by omega)
  generalize (h + l.length) % n = t at *
  have c0 : w.cell? ⟨b, 0, none⟩ = some (.slice (some ⟨sb, 0, none⟩) n n) := hhead.cell 0
  have c1 : w.cell? ⟨b, 1, none⟩ = some (.int .i64 h) := hhead.cell 1
  have c2 : w.cell? ⟨b, 2, none⟩ = some (.int .i64 t) := hhead.cell 2
  have hz : ((n : Int) == 0) = false := by simp; omega
  have s1 : IntKind.i64.wrap ((t : Int) - h) = (t : Int) - h := IntWalk.i64_in _ (by omega)
  have s2 : IntKind.i64.wrap ((t : Int) - h + n) = (t : Int) - h + n := IntWalk.i64_in _ (by omega)
  have s3 : 0 ≤ (t : Int) - h + n := by omega
  have E := Lib.hid e
  have E2 := Lib.hid e2
  clear hhead e e2
  go_enter Tryd.func31, Tryd.ntmps31
  go_wp2
  go_quiet (fail)
  go_wp2
  go_ret
  refine ⟨ret_int ?_, _, rfl⟩
  rw [E.out]
  first | (rw [← Int.natCast_emod, E2.out]) | (rw [Int.tmod_eq_emod_of_nonneg (by omega), ← Int.natCast_emod, E2.out])

theorem ring_ends (b sb n h : Nat) (l : List Int) (w : World) (hr : RingAt w b sb n h l) :
    Calls Tryd.prog 32 #[.pointer (some ⟨b, 0, none⟩)] w fun e w' => e = .returned (.tuple #[.int .i64 h, .int .i64 ((h + l.length) % n : Nat)]) ∧ ∃ q, w' = w.drewN q := by
  have c1 : w.cell? ⟨b, 1, none⟩ = some (.int .i64 h) := hr.head.cell 1
  have c2 : w.cell? ⟨b, 2, none⟩ = some (.int .i64 ((h + l.length) % n : Nat)) := hr.head.cell 2
  generalize (h + l.length) % n = t at *
  clear hr
  go_enter Tryd.func32, Tryd.ntmps32
  go_wp2
  go_quiet (fail)
  go_wp2
  go_ret2
  exact ⟨rfl, _, rfl⟩
end Go.Proofs.YtkehhfgoikbciaaDoor
