/- granaryref2.CommandOf: its bytes. -/
import Derived.Test.YtkehhfgoikbciaaDoorCmdRef
import Derived.Test.YtkehhfgoikbciaaDoorEight
import Derived.Laws.OwnMore
namespace Go.Proofs.YtkehhfgoikbciaaDoor
open Go.RowKit
set_option linter.unusedVariables false

/-- a row of bytes that is built beside a struct in a block of its own -/
structure OutAt (w0 : World) (C : Array Value) (t : TypeId) (v : Value) (n : Nat) (bs : List Int) (wr : World) : Prop where
  own : wr.ownsRow (w0.heap.size + 1) 5 1 v n (bs.map (Value.int .u8))
  bel : Below w0.heap.size w0 wr
  blk : Blk wr w0.heap.size C t
theorem own_form {w : World} {base : Nat} {e : TypeId} {size : Nat} {v : Value} {n : Nat} {xs : List Value} (h : w.ownsRow base e size v n xs) (hn : 0 < n) : ∃ g cap, v = .slice (some ⟨g, 0, none⟩) n cap ∧ base ≤ g := by
  rcases h.2 with ⟨_, h0⟩ | ⟨g, cap, cur, hv, hb, hg, _⟩
  · omega
  · exact ⟨g, cap, hv, hb⟩
theorem own_below {w w' : World} {base : Nat} {e : TypeId} {size : Nat} {v : Value} {n : Nat} {xs : List Value} (h : w.ownsRow base e size v n xs) (hb : Below w.heap.size w w') : w'.ownsRow base e size v n xs := by
  obtain ⟨hl, h | ⟨g, cap, cur, hv, h1, h2, h3⟩⟩ := h
  · exact ⟨hl, .inl h⟩
  · exact ⟨hl, .inr ⟨g, cap, cur, hv, h1, by rw [hb.block g (Array.getElem?_eq_some_iff.1 h2).1]; exact h2, h3⟩⟩
theorem OutAt.call {w0 : World} {C : Array Value} {t : TypeId} {v : Value} {n : Nat} {bs : List Int} {wr w' : World} (h : OutAt w0 C t v n bs wr) (hb : Below wr.heap.size wr w') : OutAt w0 C t v n bs w' :=
  ⟨own_below h.own hb, h.bel.trans (hb.mono h.bel.size), by
    have := h.blk
    unfold Blk at *
    rw [hb.block _ h.blk.lt]; exact this⟩
theorem OutAt.grown {w0 : World} {C : Array Value} {t : TypeId} {v v' : Value} {n m : Nat} {bs ds : List Int} {wr w' : World} (h : OutAt w0 C t v n bs wr) (ho : w'.ownsRow (w0.heap.size + 1) 5 1 v' m (bs.map (Value.int .u8) ++ ds.map (Value.int .u8))) (hg : wr.grownBy w' v.ownBlock) : OutAt w0 C t v' m (bs ++ ds) w' :=
  ⟨by rw [List.map_append]; exact ho, h.bel.grown hg h.bel.size (fun k hk => by have := (h.own.lt k hk).1; omega), h.blk.grown hg (fun k hk => by have := (h.own.lt k hk).1; omega)⟩

def cmdRef (x0 x1 x2 x3 x4 x5 : Int) : List Int := [x0, 0, x1 % 256, x1 / 256, 0, 0, 0, 0] ++ leDig 8 x2 ++ leDig 8 x3 ++ leDig 8 x4 ++ leDig 8 x5 ++ List.replicate 24 0

theorem cmdRef_bytes (x0 x1 x2 x3 x4 x5 : Int) (h : cmdFits x0 x1 x2 x3 x4 x5) : cmdRef x0 x1 x2 x3 x4 x5 = bytesAfter 64 cmdFld (cmdNum x0 x1 x2 x3 x4 x5) 6 := by
  obtain ⟨h0, h1, h3, h2, h4, h5⟩ := h
  have a0 : x0 % 256 = x0 := by omega
  have a1 : x1 / 256 % 256 = x1 / 256 := by omega
  have a3 : x3 / 256 / 256 / 256 / 256 = 0 := by omega
  simp [cmdRef, bytesAfter, splice, cmdFld, cmdNum, leDig, a0, a1, a3, List.replicate]

set_option maxRecDepth 100000 in
set_option maxHeartbeats 8000000 in
theorem command_of (x0 x1 x2 x3 x4 x5 : Int) (w : World) (h : cmdFits x0 x1 x2 x3 x4 x5) :
    Calls Tryd.prog 38 #[cmdV x0 x1 x2 x3 x4 x5] w fun e w' => ∃ v, e = .returned v ∧ w'.ownsRow (w.heap.size + 1) 5 1 v 64 ((cmdRef x0 x1 x2 x3 x4 x5).map (Value.int .u8)) ∧ Below w.heap.size w w' := by
  obtain ⟨i0, hi, hz0', hz1, hz2⟩ := info_parts (P := Tryd.prog) (e := 5) (z := .int .u8 0) (size := 1) (bytes := 1) (by kernel_rfl)
  have Hi := Lib.hid hi
  have Hz0 := Lib.hid hz0'
  have Hz1 := Lib.hid hz1
  have Hz2 := Lib.hid hz2
  clear hi hz0' hz1 hz2
  obtain ⟨h0, h1, h3, h2, h4, h5⟩ := h
  have e1 : Int.tdiv x1 256 = x1 / 256 := Int.tdiv_eq_ediv_of_nonneg (by omega)
  have e2 : IntKind.i64.wrap (x1 / 256) = x1 / 256 := IntWalk.i64_in _ (by omega)
  unfold cmdV
  go_enter Tryd.func38, Tryd.ntmps38
  go_wp2_with fail
  have hO : OutAt w #[.int .i64 x0, .int .i64 x1, .int .i64 x2, .int .i64 x3, .int .i64 x4, .int .i64 x5] 63 (.slice (some ⟨w.heap.size + 1, 0, none⟩) 8 8) 8 [x0, 0, x1 % 256, x1 / 256, 0, 0, 0, 0]
      ((w.alloc (Obj.cells #[.int .i64 x0, .int .i64 x1, .int .i64 x2, .int .i64 x3, .int .i64 x4, .int .i64 x5] 63)).alloc (Obj.cells #[.int .u8 x0, .int .u8 0, .int .u8 (x1 % 256), .int .u8 (x1 / 256), .int .u8 0, .int .u8 0, .int .u8 0, .int .u8 0] 5)) :=
    ⟨by
      have := World.ownsRow_lit (base := w.heap.size + 1) (e := 5) (size := 1) (w.alloc (Obj.cells #[.int .i64 x0, .int .i64 x1, .int .i64 x2, .int .i64 x3, .int .i64 x4, .int .i64 x5] 63)) #[.int .u8 x0, .int .u8 0, .int .u8 (x1 % 256), .int .u8 (x1 / 256), .int .u8 0, .int .u8 0, .int .u8 0, .int .u8 0] 8 (by simp) (by decide) rfl
      simpa using this,
      ((Below.refl _ _).alloc (Nat.le_refl _) _).alloc (by simp) _, (Blk.new _ _ _).alloc _⟩
  have HO := Lib.hid hO
  clear hO
  generalize (w.alloc _).alloc _ = wa0 at *
  refine (ref_eight x2 wa0 (by omega) (by omega)).mono ?_
  rintro e wb0 ⟨v0, rfl, hE⟩
  obtain ⟨g0, ca0, rfl, _⟩ := own_form hE.1 (by omega)
  have HP0 := Lib.hid (HO.out.call hE.2)
  have HC0 := Lib.hid (hE.1.cells (g := g0) rfl)
  clear hE HO
  go_wp2_with (at_builtin; refine wpList_append_own _ rfl _ _ 66 rfl (w.heap.size + 1) 5 i0 (.int .u8 0) 1 1 Tryd.underlying66 Hi.out Hz0.out Hz1.out Hz2.out rfl (by decide) _ _ _ rfl HP0.out.own ⟨g0, 0, none⟩ 8 ca0 ((leDig 8 x2).map (Value.int .u8)) rfl (by simp [leDig_length]) ?c10 ?c20 ?c30 ?c40 ?c50 ?_)
  case c10 => exact HC0.out
  case c20 => intro u hu; obtain ⟨y, _, rfl⟩ := List.mem_map.1 hu; rfl
  case c30 => unfold maxLen; omega
  case c40 => omega
  case c50 => exact HP0.out.blk.lt
  intro o0 wa1 hown hgrow _
  have HO := Lib.hid (HP0.out.grown hown hgrow)
  clear hown hgrow HP0 HC0
  have cl0 : wa1.cell? ⟨w.heap.size, 3, none⟩ = some (.int .i64 x3) := HO.out.blk.cell 3
  go_wp2_with fail
  clear cl0
  refine (ref_eight x3 wa1 (by omega) (by omega)).mono ?_
  rintro e wb1 ⟨v1, rfl, hE⟩
  obtain ⟨g1, ca1, rfl, _⟩ := own_form hE.1 (by omega)
  have HP1 := Lib.hid (HO.out.call hE.2)
  have HC1 := Lib.hid (hE.1.cells (g := g1) rfl)
  clear hE HO
  go_wp2_with (at_builtin; refine wpList_append_own _ rfl _ _ 66 rfl (w.heap.size + 1) 5 i0 (.int .u8 0) 1 1 Tryd.underlying66 Hi.out Hz0.out Hz1.out Hz2.out rfl (by decide) _ _ _ rfl HP1.out.own ⟨g1, 0, none⟩ 8 ca1 ((leDig 8 x3).map (Value.int .u8)) rfl (by simp [leDig_length]) ?c11 ?c21 ?c31 ?c41 ?c51 ?_)
  case c11 => exact HC1.out
  case c21 => intro u hu; obtain ⟨y, _, rfl⟩ := List.mem_map.1 hu; rfl
  case c31 => unfold maxLen; omega
  case c41 => omega
  case c51 => exact HP1.out.blk.lt
  intro o1 wa2 hown hgrow _
  have HO := Lib.hid (HP1.out.grown hown hgrow)
  clear hown hgrow HP1 HC1
  have cl1 : wa2.cell? ⟨w.heap.size, 4, none⟩ = some (.int .i64 x4) := HO.out.blk.cell 4
  go_wp2_with fail
  clear cl1
  refine (ref_eight x4 wa2 (by omega) (by omega)).mono ?_
  rintro e wb2 ⟨v2, rfl, hE⟩
  obtain ⟨g2, ca2, rfl, _⟩ := own_form hE.1 (by omega)
  have HP2 := Lib.hid (HO.out.call hE.2)
  have HC2 := Lib.hid (hE.1.cells (g := g2) rfl)
  clear hE HO
  go_wp2_with (at_builtin; refine wpList_append_own _ rfl _ _ 66 rfl (w.heap.size + 1) 5 i0 (.int .u8 0) 1 1 Tryd.underlying66 Hi.out Hz0.out Hz1.out Hz2.out rfl (by decide) _ _ _ rfl HP2.out.own ⟨g2, 0, none⟩ 8 ca2 ((leDig 8 x4).map (Value.int .u8)) rfl (by simp [leDig_length]) ?c12 ?c22 ?c32 ?c42 ?c52 ?_)
  case c12 => exact HC2.out
  case c22 => intro u hu; obtain ⟨y, _, rfl⟩ := List.mem_map.1 hu; rfl
  case c32 => unfold maxLen; omega
  case c42 => omega
  case c52 => exact HP2.out.blk.lt
  intro o2 wa3 hown hgrow _
  have HO := Lib.hid (HP2.out.grown hown hgrow)
  clear hown hgrow HP2 HC2
  have cl2 : wa3.cell? ⟨w.heap.size, 5, none⟩ = some (.int .i64 x5) := HO.out.blk.cell 5
  go_wp2_with fail
  clear cl2
  refine (ref_eight x5 wa3 (by omega) (by omega)).mono ?_
  rintro e wb3 ⟨v3, rfl, hE⟩
  obtain ⟨g3, ca3, rfl, _⟩ := own_form hE.1 (by omega)
  have HP3 := Lib.hid (HO.out.call hE.2)
  have HC3 := Lib.hid (hE.1.cells (g := g3) rfl)
  clear hE HO
  go_wp2_with (at_builtin; refine wpList_append_own _ rfl _ _ 66 rfl (w.heap.size + 1) 5 i0 (.int .u8 0) 1 1 Tryd.underlying66 Hi.out Hz0.out Hz1.out Hz2.out rfl (by decide) _ _ _ rfl HP3.out.own ⟨g3, 0, none⟩ 8 ca3 ((leDig 8 x5).map (Value.int .u8)) rfl (by simp [leDig_length]) ?c13 ?c23 ?c33 ?c43 ?c53 ?_)
  case c13 => exact HC3.out
  case c23 => intro u hu; obtain ⟨y, _, rfl⟩ := List.mem_map.1 hu; rfl
  case c33 => unfold maxLen; omega
  case c43 => omega
  case c53 => exact HP3.out.blk.lt
  intro o3 wa4 hown hgrow _
  have HO := Lib.hid (HP3.out.grown hown hgrow)
  clear hown hgrow HP3 HC3
  obtain ⟨g, ca, rfl, _⟩ := own_form HO.out.own (by omega)
  obtain ⟨vz, wz, hz, h40, hgz, _⟩ := run_append_zeros (P := Tryd.prog) wa4 (w.heap.size + 1) 66 3 66 5 i0 Tryd.underlying66 Tryd.underlying3 Hi.out Hz0.out Hz1.out Hz2.out g 40 ca _ HO.out.own 24 (by omega) (by omega) (HO.out.blk.lt)
  have Hrz := Lib.hid hz
  have HF := Lib.hid (HO.out.grown (ds := List.replicate 24 0) (by rw [List.map_replicate]; exact h40) hgz)
  clear hz h40 hgz HO
  go_wp2_with (at_builtin; refine Lib.wpList_append_run _ rfl _ _ _ _ rfl _ _ rfl rfl _ _ Hrz.out ?_)
  go_wp2
  go_ret
  exact ⟨_, rfl, HF.out.own, HF.out.bel⟩
end Go.Proofs.YtkehhfgoikbciaaDoor
