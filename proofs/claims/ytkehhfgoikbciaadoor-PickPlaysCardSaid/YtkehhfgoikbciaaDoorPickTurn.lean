/- pick: Picker.Next. -/
import Derived.Test.YtkehhfgoikbciaaDoorPickIt
import Derived.Test.YtkehhfgoikbciaaDoorSlc
import Derived.RangeFuncFrom
import Derived.BigQuiet
import Derived.Test.YtkehhfgoikbciaaDoorBase2
import Derived.Test.YtkehhfgoikbciaaDoorStates
namespace Go.Proofs.YtkehhfgoikbciaaDoor
open Go.RowKit Go.Shelf
attribute [local go_sem] Oper.semAt_some
set_option linter.unusedVariables false

theorem Below.drewN' {B : Nat} {w w' : World} (h : Below B w w') (n : Nat) : Below B w (w'.drewN n) := ⟨h.os, h.tape, h.output, h.size, h.block⟩

/-- A picker: block b is the struct, block g holds the weights. -/
structure PickAt (w : World) (b g cap n : Nat) (ws : Nat → Int) (k : Nat) (c : Int) : Prop where
  blk : Blk w b #[.slice (some ⟨g, 0, none⟩) n cap, .int .i64 k, .int .i64 c] 183
  ne : g ≠ b
  lt : g < w.heap.size
  cell : ∀ i, i < n → w.cell? ⟨g, i, none⟩ = some (.int .i64 (ws i))
structure PickFit (n : Nat) (ws : Nat → Int) (k : Nat) (c : Int) : Prop where
  n0 : 0 < n
  n8 : n ≤ 8
  w0 : ∀ i, i < n → 1 ≤ ws i ∧ ws i ≤ 16
  kn : k < n
  c0 : 0 ≤ c
  c1 : c ≤ 16
theorem PickAt.keep {w w' : World} {b g cap n : Nat} {ws : Nat → Int} {k : Nat} {c : Int} (h : PickAt w b g cap n ws k c) {B : Nat} (hb : Below B w w') (h1 : b < B) (h2 : g < B) : PickAt w' b g cap n ws k c :=
  ⟨(hb.block b h1).trans h.blk, h.ne, Nat.lt_of_lt_of_le h.lt hb.size, fun i hi => by rw [hb.cell (p := ⟨g, i, none⟩) h2]; exact h.cell i hi⟩
/-- what waits: n numbers in a block that is not the picker's -/
structure WaitsAt (w : World) (b bz off n : Nat) (z : Nat → Int) : Prop where
  ne : bz ≠ b
  lt : bz < w.heap.size
  cell : ∀ i, i < n → w.cell? ⟨bz, off + i, none⟩ = some (.int .i64 (z i))
theorem WaitsAt.keep {w w' : World} {b bz off n : Nat} {z : Nat → Int} (h : WaitsAt w b bz off n z) {B : Nat} (hb : Below B w w') (h1 : b < B) (h2 : bz < B) : WaitsAt w' b bz off n z :=
  ⟨h.ne, Nat.lt_of_lt_of_le h.lt hb.size, fun i hi => by rw [hb.cell (p := ⟨bz, off + i, none⟩) h2]; exact h.cell i hi⟩
/-- whose turn it is, counted from k -/
def IsTurn (z : Nat → Int) (n k j : Nat) : Prop := ∃ i, i < n ∧ j = cyc k n i ∧ 0 < z j ∧ ∀ i', i' < i → z (cyc k n i') ≤ 0
def TurnPost (b g cap n : Nat) (ws z : Nat → Int) (k : Nat) (w : World) (e : Ending) (w' : World) : Prop :=
  ∃ j : Nat, IsTurn z n k j ∧ e = .returned (.tuple #[.int .i64 j, .nilIface]) ∧ PickAt w' b g cap n ws j (ws j - 1) ∧ Keep (· = b) w w'

/-- what Next's walk holds behind its first rows: its two boxes, the picker, what waits -/
structure NX (S : Nat) (w W : World) (b g cap n : Nat) (ws : Nat → Int) (k : Nat) (c : Int) (bz off zc : Nat) (z : Nat → Int) : Prop where
  x1 : W.cell? ⟨S, 0, none⟩ = some (.pointer (some ⟨b, 0, none⟩))
  x2 : W.cell? ⟨S + 1, 0, none⟩ = some (.slice (some ⟨bz, off, none⟩) n zc)
  p : PickAt W b g cap n ws k c
  z : WaitsAt W b bz off n z
  bel : Below S w W
  size : S + 2 ≤ W.heap.size
theorem PickAt.drewN {w : World} {b g cap n : Nat} {ws : Nat → Int} {k : Nat} {c : Int} (h : PickAt w b g cap n ws k c) (q : Nat) : PickAt (w.drewN q) b g cap n ws k c := ⟨h.blk.drewN q, h.ne, h.lt, h.cell⟩
theorem WaitsAt.drewN {w : World} {b bz off n : Nat} {z : Nat → Int} (h : WaitsAt w b bz off n z) (q : Nat) : WaitsAt (w.drewN q) b bz off n z := ⟨h.ne, h.lt, h.cell⟩
section
variable {S : Nat} {w W : World} {b g cap n : Nat} {ws : Nat → Int} {k : Nat} {c : Int} {bz off zc : Nat} {z : Nat → Int}
theorem NX.drewN (h : NX S w W b g cap n ws k c bz off zc z) (q : Nat) : NX S w (W.drewN q) b g cap n ws k c bz off zc z := ⟨h.x1, h.x2, h.p.drewN q, h.z.drewN q, Below.drewN' h.bel q, h.size⟩
theorem NX.drew (h : NX S w W b g cap n ws k c bz off zc z) : NX S w W.drew b g cap n ws k c bz off zc z := ⟨h.x1, h.x2, h.p.drewN 1, h.z.drewN 1, Below.drewN' h.bel 1, h.size⟩
theorem NX.keep {W' : World} (h : NX S w W b g cap n ws k c bz off zc z) (hb : Below W.heap.size W W') : NX S w W' b g cap n ws k c bz off zc z :=
  ⟨(hb.cell (p := ⟨S, 0, none⟩) (by have := h.size; simp; omega)).trans h.x1, (hb.cell (p := ⟨S + 1, 0, none⟩) (by have := h.size; simp; omega)).trans h.x2, h.p.keep hb h.p.blk.lt h.p.lt, h.z.keep hb h.p.blk.lt h.z.lt,
    h.bel.trans (hb.mono (by have := h.size; omega)), Nat.le_trans h.size hb.size⟩
theorem NX.b0 (h : NX S w W b g cap n ws k c bz off zc z) : W.cell? ⟨b, 0, none⟩ = some (.slice (some ⟨g, 0, none⟩) n cap) := by simpa using h.p.blk.cell 0
theorem NX.b1 (h : NX S w W b g cap n ws k c bz off zc z) : W.cell? ⟨b, 1, none⟩ = some (.int .i64 k) := by simpa using h.p.blk.cell 1
theorem NX.b2 (h : NX S w W b g cap n ws k c bz off zc z) : W.cell? ⟨b, 2, none⟩ = some (.int .i64 c) := by simpa using h.p.blk.cell 2
end
theorem NX.start (w : World) (b g cap n : Nat) (ws : Nat → Int) (k : Nat) (c : Int) (bz off zc : Nat) (z : Nat → Int) (hp : PickAt w b g cap n ws k c) (hz : WaitsAt w b bz off n z) (q : Nat) :
    NX w.heap.size w (((w.alloc (.cells #[.pointer (some ⟨b, 0, none⟩)] 103)).alloc (.cells #[.slice (some ⟨bz, off, none⟩) n zc] 30)).drewN q) b g cap n ws k c bz off zc z := by
  have hB : Below w.heap.size w (((w.alloc (.cells #[.pointer (some ⟨b, 0, none⟩)] 103)).alloc (.cells #[.slice (some ⟨bz, off, none⟩) n zc] 30)).drewN q) := Below.drewN' (((Below.refl _ _).alloc (Nat.le_refl _) _).alloc (by simp) _) q
  exact ⟨(((Blk.new w #[.pointer (some ⟨b, 0, none⟩)] 103).alloc _).drewN q).cell 0, by simp, hp.keep hB hp.blk.lt hp.lt, hz.keep hB hp.blk.lt hz.lt, hB, by simp⟩

theorem from_any (b k : Nat) (w : World) : Calls Tryd.prog 94 #[.pointer (some ⟨b, 0, none⟩), .int .i64 k] w fun e w' =>
    e = .returned (.func (.func 105) #[] #[.pointer (some ⟨w.heap.size, 0, none⟩), .pointer (some ⟨w.heap.size + 1, 0, none⟩)]) ∧
      w'.cell? ⟨w.heap.size, 0, none⟩ = some (.pointer (some ⟨b, 0, none⟩)) ∧ w'.cell? ⟨w.heap.size + 1, 0, none⟩ = some (.int .i64 k) ∧ Below w.heap.size w w' ∧ w'.heap.size = w.heap.size + 2 := by
  go_enter Tryd.func94, Tryd.ntmps94
  go_wp2
  go_ret
  exact ⟨rfl, by simp, by simp, ((Below.refl _ _).alloc (Nat.le_refl _) _).alloc (by simp) _, by simp⟩

theorem arr16 (L : Array Bool) (h : L.size = 16) : ∃ l0 l1 l2 l3 l4 l5 l6 l7 l8 l9 l10 l11 l12 l13 l14 l15 : Bool, L = #[l0, l1, l2, l3, l4, l5, l6, l7, l8, l9, l10, l11, l12, l13, l14, l15] := by
  obtain ⟨l⟩ := L
  match l, h with
  | [l0, l1, l2, l3, l4, l5, l6, l7, l8, l9, l10, l11, l12, l13, l14, l15], _ => exact ⟨l0, l1, l2, l3, l4, l5, l6, l7, l8, l9, l10, l11, l12, l13, l14, l15, rfl⟩
theorem cyc_onto (k n i : Nat) (hk : k < n) (hi : i < n) : ∃ j, j < n ∧ cyc k n j = i := by
  by_cases h : k < i
  · exact ⟨i - k - 1, by omega, by unfold cyc; rw [Nat.mod_eq_of_lt (by omega)]; omega⟩
  · refine ⟨i + n - k - 1, by omega, ?_⟩
    unfold cyc
    have e : k + 1 + (i + n - k - 1) = i + n := by omega
    rw [e, Nat.add_mod_right, Nat.mod_eq_of_lt hi]
theorem cycs_mem (k n : Nat) (h : 0 < n) (j i : Nat) (hi : i < j) : cycF k n h i ∈ cycs k n h j := List.mem_map.2 ⟨i, List.mem_range.2 hi, rfl⟩
theorem PickAt.grown {w w' : World} {b g cap n : Nat} {ws : Nat → Int} {k : Nat} {c : Int} (h : PickAt w b g cap n ws k c) {row : Option Nat} (hg : w.grownBy w' row) (hr : ∀ r, row = some r → r ≠ b ∧ r ≠ g) : PickAt w' b g cap n ws k c :=
  ⟨h.blk.grown hg (fun r e => (hr r e).1), h.ne, Nat.lt_of_lt_of_le h.lt hg.size, fun i hi => hg.cell (a := ⟨g, i, none⟩) (h.cell i hi) (fun e => (hr _ e.symm).2 rfl)⟩
theorem PickAt.setC {w : World} {b g cap n : Nat} {ws : Nat → Int} {k : Nat} {c : Int} (h : PickAt w b g cap n ws k c) (c' : Int) : PickAt (w.setCell ⟨b, 2, none⟩ (.int .i64 c')) b g cap n ws k c' :=
  ⟨(h.blk.set 2 _).of (by simp), h.ne, by simpa using h.lt, fun i hi => by
    have := h.cell i hi
    have hgb := h.ne
    simpa [World.cell?_setCell_other, hgb, hgb.symm] using this⟩
/-- the frame in the region that sets the picker, as far as its operations have come up -/
@[reducible] def frame11 (b g n cap x : Nat) (wx : Int) (t0 t1 t2 t3 t4 t5 t6 t7 t8 t9 t10 t11 t12 t13 t14 t15 t16 t17 t18 t19 t20 t21 t22 t23 t24 t25 t26 t27 t28 t29 t30 t31 t32 t33 t34 t35 t36 t37 t38 t39 t40 t41 t42 t43 t44 t45 t46 t47 t48 t49 t50 t51 t52 t53 t54 t55 t56 t57 t58 t59 t60 t61 t62 t63 t64 t65 t66 t67 t68 t69 t70 t71 t72 t73 t74 t75 : Value) (L : Array Bool) : Act := { tmps := #[t0, t1, t2, t3, t4, t5, t6, t7, t8, t9, t10, t11, t12, t13, t14, t15, t16, t17, t18, t19, t20, t21, t22, t23, t24, t25, t26, t27, t28, t29, t30, t31, t32, t33, t34, t35, t36, t37, t38, t39, t40, t41, t42, t43, t44, t45, t46, t47, t48, t49, t50, if L.getD 0 false = true then .pointer (some ⟨b, 0, none⟩) else t51, if L.getD 1 false = true then .pointer (some ⟨b, 0, none⟩) else t52, if L.getD 2 false = true then .int .i64 x else t53, if L.getD 3 false = true then .pointer (some ⟨b, 0, none⟩) else t54, if L.getD 4 false = true then .pointer (some ⟨b, 0, none⟩) else t55, if L.getD 5 false = true then .pointer (some ⟨b, 0, none⟩) else t56, if L.getD 6 false = true then .slice (some ⟨g, 0, none⟩) n cap else t57, if L.getD 7 false = true then .int .i64 x else t58, if L.getD 8 false = true then .pointer (some ⟨g, x, none⟩) else t59, if L.getD 9 false = true then .int .i64 wx else t60, if L.getD 10 false = true then .pointer (some ⟨b, 0, none⟩) else t61, if L.getD 11 false = true then .pointer (some ⟨b, 1, none⟩) else t62, if L.getD 13 false = true then .pointer (some ⟨b, 0, none⟩) else t63, if L.getD 14 false = true then .pointer (some ⟨b, 2, none⟩) else t64, t65, t66, t67, t68, t69, t70, t71, t72, t73, t74, t75], defers := [] }
@[reducible] def world11 (b x : Nat) (wx : Int) (W : World) (L : Array Bool) : World :=
  if L.getD 15 false = true then ((W.setCell ⟨b, 1, none⟩ (.int .i64 x)).setCell ⟨b, 2, none⟩ (.int .i64 wx)).drew else if L.getD 12 false = true then (W.setCell ⟨b, 1, none⟩ (.int .i64 x)).drew else W.drew

set_option maxRecDepth 100000 in
set_option maxHeartbeats 2000000 in
theorem next_turn_a (b g cap n : Nat) (ws : Nat → Int) (k : Nat) (c : Int) (bz off zc : Nat) (z : Nat → Int) (w : World) (hp : PickAt w b g cap n ws k c) (hf : PickFit n ws k c) (hz : WaitsAt w b bz off n z)
    (hz0 : ∀ i, i < n → 0 ≤ z i) (hpos : ∃ i, i < n ∧ 0 < z i) (hk0 : z k = 0) :
    Calls Tryd.prog 57 #[.pointer (some ⟨b, 0, none⟩), .slice (some ⟨bz, off, none⟩) n zc] w (TurnPost b g cap n ws z k w) := by
  have HF := Lib.hid hf
  obtain ⟨f1, f2, f3, f4, f5, f6⟩ := hf
  have HN := Lib.hid (fun q => NX.start w b g cap n ws k c bz off zc z hp hz q)
  have hb1 := hp.blk.cell 0
  simp only [List.getElem?_toArray, List.getElem?_cons_zero] at hb1
  have hblt := hp.blk.lt
  clear hz hp f3
  refine (callsIn_wide (n := 4)).1 ?_
  refine callsIn_of_wp_marks Tryd.func57 rfl trivial ?_ rfl
  simp only [Tryd.ntmps57, List.size_toArray, List.length_cons, List.length_nil, Nat.reduceAdd, Nat.reduceSub, Array.replicate_succ, Array.replicate_zero, List.push_toArray, List.append_toArray, List.nil_append, List.cons_append]
  refine wpIn_wide.2 ?_
  go_wp2_with fail
  go_quiet (fail)
  have HN1 := Lib.hid (HN.out nq)
  have x1 := HN1.out.x1
  have x2 := HN1.out.x2
  clear HN hb1
  generalize World.drewN _ nq = W1 at *
  go_wp2_with fail
  refine (min_row bz off n zc z _ f1 (by omega) HN1.out.z.cell).mono ?_
  rintro e w' ⟨m1, hm1, rfl, rfl⟩
  have t1 : decide (m1 < 0) = false := by
    obtain ⟨i, hi, rfl⟩ := hm1.2
    simpa using hz0 i hi
  clear hm1
  go_wp2_with fail
  refine (max_row bz off n zc z _ f1 (by omega) HN1.out.z.cell).mono ?_
  rintro e w' ⟨m2, hm2, rfl, rfl⟩
  have t2 : (m2 == 0) = false := by
    obtain ⟨i, hi, hi2⟩ := hpos
    have := hm2.1 i hi
    simp; omega
  clear hm2
  go_wp2_with fail
  have hzk := HN1.out.z.cell k f4
  have hb0 := HN1.out.b0
  have hb1 := HN1.out.b1
  have hb2 := HN1.out.b2
  have t3 : (z k == 0) = true := by simpa using hk0
  have t4 : True := trivial
  clear hk0
  go_quiet (fail)
  have HN2 := Lib.hid (HN1.out.drewN nq)
  clear hzk hb0 hb1 hb2 x1 x2 t1 t2 t4 HN1
  have x1 := HN2.out.x1
  have x2 := HN2.out.x2
  have hb1 := HN2.out.b1
  generalize World.drewN _ nq = W2 at *
  go_wp2_with fail
  refine wp_still_tail 5 (by kernel_rfl) (by kernel_rfl) ?_
  intro W hW
  have HN3 := Lib.hid (show NX w.heap.size w W b g cap n ws k c bz off zc z by subst hW; exact HN2.out.drew)
  clear hW x1 x2 hb1 HN2
  have x1 := HN3.out.x1
  have x2 := HN3.out.x2
  have hb1 := HN3.out.b1
  simp only [List.take_succ_cons, List.take_zero, List.drop_succ_cons, List.drop_zero]
  repeat still_step
  refine wpStill_nil ?_
  go_wp2_with fail
  refine (from_any b k _).mono ?_
  rintro e W' ⟨rfl, y1, y2, hbf, hsf⟩
  have HN4 := Lib.hid (HN3.out.keep hbf)
  have z0 := HN4.out.b0
  have hsz := HN3.out.size
  have HSF := Lib.hid hsf
  clear hsf x1 x2 hb1 HN3 hbf
  have x1 := HN4.out.x1
  have x2 := HN4.out.x2
  go_wp2_with fail
  refine (wpIn_wide (n := 4)).1 ?_
  refine wpIn_rangeFunc_ownF (P := Tryd.prog) (F := Fence.wide) rfl (by decide) (gf := 105) (lb := #[.pointer (some ⟨W.heap.size, 0, none⟩), .pointer (some ⟨W.heap.size + 1, 0, none⟩)]) rfl trivial (enters_of Tryd.func105 (by kernel_rfl) rfl)
    (from_stops 3 (by decide) W.heap.size (W.heap.size + 1) b W'.heap.size (some ⟨g, 0, none⟩) n cap k W' (by have := HSF.out; omega) (by have := HSF.out; omega) HN4.out.p.blk.lt (Nat.le_refl _) f1 (by omega) f4 y1 y2 z0) belowK_t (belowK_b (Nat.le_refl _)) (Below.refl _ _) (fun _ => rfl)
    (fun pre V => Below W'.heap.size W' V ∧ ∀ x ∈ pre, z x.val ≤ 0)
    (fun e pre V => e = .exit 0 ∧ ∃ (pre' : List (Fin n)) (j : Fin n), pre = pre' ++ [j] ∧ (∀ x ∈ pre', z x.val ≤ 0) ∧ 0 < z j.val ∧ PickAt V b g cap n ws j.val (ws j.val) ∧ Keep (· = b) W' V)
    ?hI ?hIx ⟨Below.refl _ _, by simp⟩ ?a1 ?assign ?body ?done ?stop
  case assign =>
    intro l x V K hK
    simp only [encF]
    gi_wp2
    exact hK
  case body =>
    rintro l pre ⟨x, hx⟩ V ⟨hB, hpre⟩ hlen
    have HN5 := Lib.hid (HN4.out.keep hB)
    have HB := Lib.hid hB
    have HP := Lib.hid hpre
    clear hB hpre HN4 x1 x2 y1 y2 z0
    have x1 := HN5.out.x1
    have x2 := HN5.out.x2
    have zx := HN5.out.z.cell x hx
    by_cases hpx : 0 < z x
    · gi_wp2
      have y1 : V.cell? ⟨w.heap.size, 0, none⟩ = some (.pointer (some ⟨b, 0, none⟩)) := x1
      have b0 : V.cell? ⟨b, 0, none⟩ = some (.slice (some ⟨g, 0, none⟩) n cap) := HN5.out.b0
      have b1 : V.cell? ⟨b, 1, none⟩ = some (.int .i64 k) := HN5.out.b1
      have b2 : V.cell? ⟨b, 2, none⟩ = some (.int .i64 c) := HN5.out.b2
      have e1 : ∀ i, V.frozen? ⟨b, i, none⟩ = false := HN5.out.p.blk.free
      have gx : V.cell? ⟨g, x, none⟩ = some (.int .i64 (ws x)) := HN5.out.p.cell x hx
      have hgb : g ≠ b := HN5.out.p.ne
      have hwb : w.heap.size ≠ b := by omega
      refine wpIn_region_states (by kernel_rfl) (frame11 b g n cap x (ws x) _ _ _ _ _ _ _ _ _ _ _ _ _ _ _ _ _ _ _ _ _ _ _ _ _ _ _ _ _ _ _ _ _ _ _ _ _ _ _ _ _ _ _ _ _ _ _ _ _ _ _ _ _ _ _ _ _ _ _ _ _ _ _ _ _ _ _ _ _ _ _ _ _ _ _ _) (world11 b x (ws x) V) (fun L => L.size = 16 ∧ (L.getD 15 false = true → L.getD 12 false = true))
        #[false, false, false, false, false, false, false, false, false, false, false, false, false, false, false, false] (by rfl) (by rfl) (by rfl) ⟨by rfl, by simp⟩ ?hstep ?hend
      case hend =>
        rintro L ⟨hL, hG⟩ hr
        obtain ⟨l0, l1, l2, l3, l4, l5, l6, l7, l8, l9, l10, l11, l12, l13, l14, l15, rfl⟩ := arr16 L hL
        clear hL hG
        have q0 := unready hr 0 _ rfl (by simp [Region.binds])
        simp at q0
        subst q0
        have q1 := unready hr 1 _ rfl (by simp [Region.binds])
        simp at q1
        subst q1
        have q2 := unready hr 2 _ rfl (by simp [Region.binds])
        simp at q2
        subst q2
        have q3 := unready hr 3 _ rfl (by simp [Region.binds])
        simp at q3
        subst q3
        have q4 := unready hr 4 _ rfl (by simp [Region.binds])
        simp at q4
        subst q4
        have q5 := unready hr 5 _ rfl (by simp [Region.binds])
        simp at q5
        subst q5
        have q6 := unready hr 6 _ rfl (by simp [Region.binds])
        simp at q6
        subst q6
        have q7 := unready hr 7 _ rfl (by simp [Region.binds])
        simp at q7
        subst q7
        have q8 := unready hr 8 _ rfl (by simp [Region.binds])
        simp at q8
        subst q8
        have q9 := unready hr 9 _ rfl (by simp [Region.binds])
        simp at q9
        subst q9
        have q10 := unready hr 10 _ rfl (by simp [Region.binds])
        simp at q10
        subst q10
        have q11 := unready hr 11 _ rfl (by simp [Region.binds])
        simp at q11
        subst q11
        have q12 := unready hr 12 _ rfl (by simp [Region.binds])
        simp at q12
        subst q12
        have q13 := unready hr 13 _ rfl (by simp [Region.binds])
        simp at q13
        subst q13
        have q14 := unready hr 14 _ rfl (by simp [Region.binds])
        simp at q14
        subst q14
        have q15 := unready hr 15 _ rfl (by simp [Region.binds])
        simp at q15
        subst q15
        clear hr
        simp only [frame11, world11]
        simp
        gi_wp2
        refine ⟨((KeepsOthers.setCell _ _ _).trans (KeepsOthers.setCell _ _ _)).trans (KeepsOthers.drew _), rfl, pre, ⟨x, hx⟩, rfl, HP.out, hpx, ⟨?_, hgb, ?_, ?_⟩, ?_⟩
        · exact (((HN5.out.p.blk.set 1 (.int .i64 (x : Int))).set 2 (.int .i64 (ws x))).of (by simp)).drew
        · have := HN5.out.p.lt; simpa using this
        · intro i hi
          have := HN5.out.p.cell i hi
          simpa [World.cell?_setCell_other, hgb, hgb.symm] using this
        · exact (((Keep.ofBelow (S := (· = b)) HB.out (fun k h1 h2 => by omega)).setCell (.inl rfl) _).setCell (.inl rfl) _).drew
      case hstep =>
        rintro L ⟨hL, hG⟩ i hi
        obtain ⟨l0, l1, l2, l3, l4, l5, l6, l7, l8, l9, l10, l11, l12, l13, l14, l15, rfl⟩ := arr16 L hL
        rw [mem_ready] at hi
        obtain ⟨h0, o, ho, hd⟩ := hi
        have hi16 : i < 16 := (Array.getElem?_eq_some_iff.1 ho).1
        have hcases : i = 0 ∨ i = 1 ∨ i = 2 ∨ i = 3 ∨ i = 4 ∨ i = 5 ∨ i = 6 ∨ i = 7 ∨ i = 8 ∨ i = 9 ∨ i = 10 ∨ i = 11 ∨ i = 12 ∨ i = 13 ∨ i = 14 ∨ i = 15 := by omega
        rcases hcases with rfl | rfl | rfl | rfl | rfl | rfl | rfl | rfl | rfl | rfl | rfl | rfl | rfl | rfl | rfl | rfl
        all_goals
          obtain rfl := Option.some.inj ho
          simp [Region.binds] at h0 hd
          (try simp at hG)
          repeat (obtain ⟨hx1, hd⟩ := hd; try subst hx1)
          subst_vars
          refine ⟨⟨by simp, by simp_all⟩, fun K hK => ?_⟩
          refine wpOpIn_step rfl ?_
          intro K' hK'
          (try cases l12) <;> (try cases l15) <;> try (exfalso; simp at hG; done)
          all_goals (simp only [frame11, world11] at hK ⊢; simp at hK; go_simp)
          all_goals exact hK' _ _ hK
    · gi_wp2
      exact ⟨KeepsOthers.refl _, Below.refl _ _, HB.out, fun y hy => by
        rcases List.mem_append.1 hy with h | h
        · exact HP.out y h
        · obtain rfl := List.mem_singleton.1 h
          simp; omega⟩
  case hI => exact OwnFrom.and (ownFrom_below (Nat.le_refl _) (Nat.le_refl _)) (fun s A B row hs hg hr => hs)
  case hIx =>
    intro e s A B row hs hg hr
    obtain ⟨rfl, pre', j, rfl, h1, h2, hP, hK⟩ := hs
    have q1 := HN4.out.p.blk.lt
    have q2 := HN4.out.p.lt
    exact ⟨rfl, pre', j, rfl, h1, h2, hP.grown hg (fun r e => by have := (hr r e).1; omega), hK.grown hg (fun r e => .inr (hr r e).1)⟩
  case done =>
    rintro D ys V hD rfl ⟨hB, hall⟩ hK
    exfalso
    obtain ⟨i, hi, hi2⟩ := hpos
    obtain ⟨j, hj, rfl⟩ := cyc_onto k n i f4 hi
    have : z (cyc k n j) ≤ 0 := hall _ (cycs_mem k n f1 n j hj)
    omega
  case stop =>
    rintro D e pre V hD ⟨j', hj', hpre⟩ ⟨rfl, pre', j, rfl, h1, h2, hP, hK⟩ hKd
    rw [cycs_succ] at hpre
    obtain ⟨rfl, hjj⟩ := List.append_inj' hpre rfl
    obtain rfl := List.singleton_inj.1 hjj
    clear hpre hjj
    have hT : IsTurn z n k (cycF k n f1 j').val := ⟨j', hj', rfl, h2, fun i hi => h1 _ (cycs_mem k n f1 j' i hi)⟩
    have hjn := (cycF k n f1 j').isLt
    have hw0 := HF.out.w0 _ hjn
    have q3 := HN4.out.size
    have q1 := HN4.out.p.blk.lt
    have q2 := HN4.out.p.lt
    have q4 := HN4.out.bel
    generalize (cycF k n f1 j').val = j at *
    have v1 : V.cell? ⟨w.heap.size, 0, none⟩ = some (.pointer (some ⟨b, 0, none⟩)) := (hK.cell (p := ⟨w.heap.size, 0, none⟩) (by simp; omega) (by simp; omega)).trans x1
    have v2 : V.cell? ⟨b, 2, none⟩ = some (.int .i64 (ws j)) := by simpa using hP.blk.cell 2
    have v3 : V.cell? ⟨b, 1, none⟩ = some (.int .i64 j) := by simpa using hP.blk.cell 1
    have v4 : V.frozen? ⟨b, 2, none⟩ = false := hP.blk.free 2
    have w1 := hw0.1
    have w2 := hw0.2
    have HT := Lib.hid hT
    have HP := Lib.hid hP
    have HK := Lib.hid hK
    have Hd := Lib.hid hKd
    have H4 := Lib.hid q4
    clear hT hP hK hKd q4 h1 h2 hw0 x1 x2 y1 y2 z0
    have hwb : w.heap.size ≠ b := by omega
    gi_wp2
    go_wp2
    have hKd' := (KeepsOthers.setCell V ⟨b, 2, none⟩ (.int .i64 (ws j - 1))).same D _ Hd.out rfl
    refine ⟨by simp, .inl ⟨_, _, rfl, run_takeDeferred hKd', ?_⟩⟩
    refine ⟨_, results_tmp2 rfl _ _ _, j, HT.out, rfl, (HP.out.setC (ws j - 1)).grown (grownBy_putObj' _ D (.deferred none)) (fun r e => by cases e; omega), ?_⟩
    have hk1 : Keep (· = b) w W' := Keep.ofBelow H4.out (fun k' h1 h2 => by omega)
    exact ((hk1.trans HK.out).setCell (.inl rfl) _).grown (grownBy_putObj' _ D (.deferred none)) (fun r e => by cases e; right; omega)

set_option maxRecDepth 100000 in
set_option maxHeartbeats 2000000 in
theorem next_turn_b (b g cap n : Nat) (ws : Nat → Int) (k : Nat) (c : Int) (bz off zc : Nat) (z : Nat → Int) (w : World) (hp : PickAt w b g cap n ws k c) (hf : PickFit n ws k c) (hz : WaitsAt w b bz off n z)
    (hz0 : ∀ i, i < n → 0 ≤ z i) (hpos : ∃ i, i < n ∧ 0 < z i) (hk0 : z k ≠ 0) (hc : c = 0) :
    Calls Tryd.prog 57 #[.pointer (some ⟨b, 0, none⟩), .slice (some ⟨bz, off, none⟩) n zc] w (TurnPost b g cap n ws z k w) := by
  have HF := Lib.hid hf
  obtain ⟨f1, f2, f3, f4, f5, f6⟩ := hf
  have HN := Lib.hid (fun q => NX.start w b g cap n ws k c bz off zc z hp hz q)
  have hb1 := hp.blk.cell 0
  simp only [List.getElem?_toArray, List.getElem?_cons_zero] at hb1
  have hblt := hp.blk.lt
  clear hz hp f3
  refine (callsIn_wide (n := 4)).1 ?_
  refine callsIn_of_wp_marks Tryd.func57 rfl trivial ?_ rfl
  simp only [Tryd.ntmps57, List.size_toArray, List.length_cons, List.length_nil, Nat.reduceAdd, Nat.reduceSub, Array.replicate_succ, Array.replicate_zero, List.push_toArray, List.append_toArray, List.nil_append, List.cons_append]
  refine wpIn_wide.2 ?_
  go_wp2_with fail
  go_quiet (fail)
  have HN1 := Lib.hid (HN.out nq)
  have x1 := HN1.out.x1
  have x2 := HN1.out.x2
  clear HN hb1
  generalize World.drewN _ nq = W1 at *
  go_wp2_with fail
  refine (min_row bz off n zc z _ f1 (by omega) HN1.out.z.cell).mono ?_
  rintro e w' ⟨m1, hm1, rfl, rfl⟩
  have t1 : decide (m1 < 0) = false := by
    obtain ⟨i, hi, rfl⟩ := hm1.2
    simpa using hz0 i hi
  clear hm1
  go_wp2_with fail
  refine (max_row bz off n zc z _ f1 (by omega) HN1.out.z.cell).mono ?_
  rintro e w' ⟨m2, hm2, rfl, rfl⟩
  have t2 : (m2 == 0) = false := by
    obtain ⟨i, hi, hi2⟩ := hpos
    have := hm2.1 i hi
    simp; omega
  clear hm2
  go_wp2_with fail
  have hzk := HN1.out.z.cell k f4
  have hb0 := HN1.out.b0
  have hb1 := HN1.out.b1
  have hb2 := HN1.out.b2
  have t3 : (z k == 0) = false := by simpa using hk0
  have t4 : (c == 0) = true := by simpa using hc
  clear hk0 hc
  go_quiet (fail)
  have HN2 := Lib.hid (HN1.out.drewN nq)
  clear hzk hb0 hb1 hb2 x1 x2 t1 t2 t4 HN1
  have x1 := HN2.out.x1
  have x2 := HN2.out.x2
  have hb1 := HN2.out.b1
  generalize World.drewN _ nq = W2 at *
  go_wp2_with fail
  refine wp_still_tail 5 (by kernel_rfl) (by kernel_rfl) ?_
  intro W hW
  have HN3 := Lib.hid (show NX w.heap.size w W b g cap n ws k c bz off zc z by subst hW; exact HN2.out.drew)
  clear hW x1 x2 hb1 HN2
  have x1 := HN3.out.x1
  have x2 := HN3.out.x2
  have hb1 := HN3.out.b1
  simp only [List.take_succ_cons, List.take_zero, List.drop_succ_cons, List.drop_zero]
  repeat still_step
  refine wpStill_nil ?_
  go_wp2_with fail
  refine (from_any b k _).mono ?_
  rintro e W' ⟨rfl, y1, y2, hbf, hsf⟩
  have HN4 := Lib.hid (HN3.out.keep hbf)
  have z0 := HN4.out.b0
  have hsz := HN3.out.size
  have HSF := Lib.hid hsf
  clear hsf x1 x2 hb1 HN3 hbf
  have x1 := HN4.out.x1
  have x2 := HN4.out.x2
  go_wp2_with fail
  refine (wpIn_wide (n := 4)).1 ?_
  refine wpIn_rangeFunc_ownF (P := Tryd.prog) (F := Fence.wide) rfl (by decide) (gf := 105) (lb := #[.pointer (some ⟨W.heap.size, 0, none⟩), .pointer (some ⟨W.heap.size + 1, 0, none⟩)]) rfl trivial (enters_of Tryd.func105 (by kernel_rfl) rfl)
    (from_stops 3 (by decide) W.heap.size (W.heap.size + 1) b W'.heap.size (some ⟨g, 0, none⟩) n cap k W' (by have := HSF.out; omega) (by have := HSF.out; omega) HN4.out.p.blk.lt (Nat.le_refl _) f1 (by omega) f4 y1 y2 z0) belowK_t (belowK_b (Nat.le_refl _)) (Below.refl _ _) (fun _ => rfl)
    (fun pre V => Below W'.heap.size W' V ∧ ∀ x ∈ pre, z x.val ≤ 0)
    (fun e pre V => e = .exit 0 ∧ ∃ (pre' : List (Fin n)) (j : Fin n), pre = pre' ++ [j] ∧ (∀ x ∈ pre', z x.val ≤ 0) ∧ 0 < z j.val ∧ PickAt V b g cap n ws j.val (ws j.val) ∧ Keep (· = b) W' V)
    ?hI ?hIx ⟨Below.refl _ _, by simp⟩ ?a1 ?assign ?body ?done ?stop
  case assign =>
    intro l x V K hK
    simp only [encF]
    gi_wp2
    exact hK
  case body =>
    rintro l pre ⟨x, hx⟩ V ⟨hB, hpre⟩ hlen
    have HN5 := Lib.hid (HN4.out.keep hB)
    have HB := Lib.hid hB
    have HP := Lib.hid hpre
    clear hB hpre HN4 x1 x2 y1 y2 z0
    have x1 := HN5.out.x1
    have x2 := HN5.out.x2
    have zx := HN5.out.z.cell x hx
    by_cases hpx : 0 < z x
    · gi_wp2
      have y1 : V.cell? ⟨w.heap.size, 0, none⟩ = some (.pointer (some ⟨b, 0, none⟩)) := x1
      have b0 : V.cell? ⟨b, 0, none⟩ = some (.slice (some ⟨g, 0, none⟩) n cap) := HN5.out.b0
      have b1 : V.cell? ⟨b, 1, none⟩ = some (.int .i64 k) := HN5.out.b1
      have b2 : V.cell? ⟨b, 2, none⟩ = some (.int .i64 c) := HN5.out.b2
      have e1 : ∀ i, V.frozen? ⟨b, i, none⟩ = false := HN5.out.p.blk.free
      have gx : V.cell? ⟨g, x, none⟩ = some (.int .i64 (ws x)) := HN5.out.p.cell x hx
      have hgb : g ≠ b := HN5.out.p.ne
      have hwb : w.heap.size ≠ b := by omega
      refine wpIn_region_states (by kernel_rfl) (frame11 b g n cap x (ws x) _ _ _ _ _ _ _ _ _ _ _ _ _ _ _ _ _ _ _ _ _ _ _ _ _ _ _ _ _ _ _ _ _ _ _ _ _ _ _ _ _ _ _ _ _ _ _ _ _ _ _ _ _ _ _ _ _ _ _ _ _ _ _ _ _ _ _ _ _ _ _ _ _ _ _ _) (world11 b x (ws x) V) (fun L => L.size = 16 ∧ (L.getD 15 false = true → L.getD 12 false = true))
        #[false, false, false, false, false, false, false, false, false, false, false, false, false, false, false, false] (by rfl) (by rfl) (by rfl) ⟨by rfl, by simp⟩ ?hstep ?hend
      case hend =>
        rintro L ⟨hL, hG⟩ hr
        obtain ⟨l0, l1, l2, l3, l4, l5, l6, l7, l8, l9, l10, l11, l12, l13, l14, l15, rfl⟩ := arr16 L hL
        clear hL hG
        have q0 := unready hr 0 _ rfl (by simp [Region.binds])
        simp at q0
        subst q0
        have q1 := unready hr 1 _ rfl (by simp [Region.binds])
        simp at q1
        subst q1
        have q2 := unready hr 2 _ rfl (by simp [Region.binds])
        simp at q2
        subst q2
        have q3 := unready hr 3 _ rfl (by simp [Region.binds])
        simp at q3
        subst q3
        have q4 := unready hr 4 _ rfl (by simp [Region.binds])
        simp at q4
        subst q4
        have q5 := unready hr 5 _ rfl (by simp [Region.binds])
        simp at q5
        subst q5
        have q6 := unready hr 6 _ rfl (by simp [Region.binds])
        simp at q6
        subst q6
        have q7 := unready hr 7 _ rfl (by simp [Region.binds])
        simp at q7
        subst q7
        have q8 := unready hr 8 _ rfl (by simp [Region.binds])
        simp at q8
        subst q8
        have q9 := unready hr 9 _ rfl (by simp [Region.binds])
        simp at q9
        subst q9
        have q10 := unready hr 10 _ rfl (by simp [Region.binds])
        simp at q10
        subst q10
        have q11 := unready hr 11 _ rfl (by simp [Region.binds])
        simp at q11
        subst q11
        have q12 := unready hr 12 _ rfl (by simp [Region.binds])
        simp at q12
        subst q12
        have q13 := unready hr 13 _ rfl (by simp [Region.binds])
        simp at q13
        subst q13
        have q14 := unready hr 14 _ rfl (by simp [Region.binds])
        simp at q14
        subst q14
        have q15 := unready hr 15 _ rfl (by simp [Region.binds])
        simp at q15
        subst q15
        clear hr
        simp only [frame11, world11]
        simp
        gi_wp2
        refine ⟨((KeepsOthers.setCell _ _ _).trans (KeepsOthers.setCell _ _ _)).trans (KeepsOthers.drew _), rfl, pre, ⟨x, hx⟩, rfl, HP.out, hpx, ⟨?_, hgb, ?_, ?_⟩, ?_⟩
        · exact (((HN5.out.p.blk.set 1 (.int .i64 (x : Int))).set 2 (.int .i64 (ws x))).of (by simp)).drew
        · have := HN5.out.p.lt; simpa using this
        · intro i hi
          have := HN5.out.p.cell i hi
          simpa [World.cell?_setCell_other, hgb, hgb.symm] using this
        · exact (((Keep.ofBelow (S := (· = b)) HB.out (fun k h1 h2 => by omega)).setCell (.inl rfl) _).setCell (.inl rfl) _).drew
      case hstep =>
        rintro L ⟨hL, hG⟩ i hi
        obtain ⟨l0, l1, l2, l3, l4, l5, l6, l7, l8, l9, l10, l11, l12, l13, l14, l15, rfl⟩ := arr16 L hL
        rw [mem_ready] at hi
        obtain ⟨h0, o, ho, hd⟩ := hi
        have hi16 : i < 16 := (Array.getElem?_eq_some_iff.1 ho).1
        have hcases : i = 0 ∨ i = 1 ∨ i = 2 ∨ i = 3 ∨ i = 4 ∨ i = 5 ∨ i = 6 ∨ i = 7 ∨ i = 8 ∨ i = 9 ∨ i = 10 ∨ i = 11 ∨ i = 12 ∨ i = 13 ∨ i = 14 ∨ i = 15 := by omega
        rcases hcases with rfl | rfl | rfl | rfl | rfl | rfl | rfl | rfl | rfl | rfl | rfl | rfl | rfl | rfl | rfl | rfl
        all_goals
          obtain rfl := Option.some.inj ho
          simp [Region.binds] at h0 hd
          (try simp at hG)
          repeat (obtain ⟨hx1, hd⟩ := hd; try subst hx1)
          subst_vars
          refine ⟨⟨by simp, by simp_all⟩, fun K hK => ?_⟩
          refine wpOpIn_step rfl ?_
          intro K' hK'
          (try cases l12) <;> (try cases l15) <;> try (exfalso; simp at hG; done)
          all_goals (simp only [frame11, world11] at hK ⊢; simp at hK; go_simp)
          all_goals exact hK' _ _ hK
    · gi_wp2
      exact ⟨KeepsOthers.refl _, Below.refl _ _, HB.out, fun y hy => by
        rcases List.mem_append.1 hy with h | h
        · exact HP.out y h
        · obtain rfl := List.mem_singleton.1 h
          simp; omega⟩
  case hI => exact OwnFrom.and (ownFrom_below (Nat.le_refl _) (Nat.le_refl _)) (fun s A B row hs hg hr => hs)
  case hIx =>
    intro e s A B row hs hg hr
    obtain ⟨rfl, pre', j, rfl, h1, h2, hP, hK⟩ := hs
    have q1 := HN4.out.p.blk.lt
    have q2 := HN4.out.p.lt
    exact ⟨rfl, pre', j, rfl, h1, h2, hP.grown hg (fun r e => by have := (hr r e).1; omega), hK.grown hg (fun r e => .inr (hr r e).1)⟩
  case done =>
    rintro D ys V hD rfl ⟨hB, hall⟩ hK
    exfalso
    obtain ⟨i, hi, hi2⟩ := hpos
    obtain ⟨j, hj, rfl⟩ := cyc_onto k n i f4 hi
    have : z (cyc k n j) ≤ 0 := hall _ (cycs_mem k n f1 n j hj)
    omega
  case stop =>
    rintro D e pre V hD ⟨j', hj', hpre⟩ ⟨rfl, pre', j, rfl, h1, h2, hP, hK⟩ hKd
    rw [cycs_succ] at hpre
    obtain ⟨rfl, hjj⟩ := List.append_inj' hpre rfl
    obtain rfl := List.singleton_inj.1 hjj
    clear hpre hjj
    have hT : IsTurn z n k (cycF k n f1 j').val := ⟨j', hj', rfl, h2, fun i hi => h1 _ (cycs_mem k n f1 j' i hi)⟩
    have hjn := (cycF k n f1 j').isLt
    have hw0 := HF.out.w0 _ hjn
    have q3 := HN4.out.size
    have q1 := HN4.out.p.blk.lt
    have q2 := HN4.out.p.lt
    have q4 := HN4.out.bel
    generalize (cycF k n f1 j').val = j at *
    have v1 : V.cell? ⟨w.heap.size, 0, none⟩ = some (.pointer (some ⟨b, 0, none⟩)) := (hK.cell (p := ⟨w.heap.size, 0, none⟩) (by simp; omega) (by simp; omega)).trans x1
    have v2 : V.cell? ⟨b, 2, none⟩ = some (.int .i64 (ws j)) := by simpa using hP.blk.cell 2
    have v3 : V.cell? ⟨b, 1, none⟩ = some (.int .i64 j) := by simpa using hP.blk.cell 1
    have v4 : V.frozen? ⟨b, 2, none⟩ = false := hP.blk.free 2
    have w1 := hw0.1
    have w2 := hw0.2
    have HT := Lib.hid hT
    have HP := Lib.hid hP
    have HK := Lib.hid hK
    have Hd := Lib.hid hKd
    have H4 := Lib.hid q4
    clear hT hP hK hKd q4 h1 h2 hw0 x1 x2 y1 y2 z0
    have hwb : w.heap.size ≠ b := by omega
    gi_wp2
    go_wp2
    have hKd' := (KeepsOthers.setCell V ⟨b, 2, none⟩ (.int .i64 (ws j - 1))).same D _ Hd.out rfl
    refine ⟨by simp, .inl ⟨_, _, rfl, run_takeDeferred hKd', ?_⟩⟩
    refine ⟨_, results_tmp2 rfl _ _ _, j, HT.out, rfl, (HP.out.setC (ws j - 1)).grown (grownBy_putObj' _ D (.deferred none)) (fun r e => by cases e; omega), ?_⟩
    have hk1 : Keep (· = b) w W' := Keep.ofBelow H4.out (fun k' h1 h2 => by omega)
    exact ((hk1.trans HK.out).setCell (.inl rfl) _).grown (grownBy_putObj' _ D (.deferred none)) (fun r e => by cases e; right; omega)

end Go.Proofs.YtkehhfgoikbciaaDoor
