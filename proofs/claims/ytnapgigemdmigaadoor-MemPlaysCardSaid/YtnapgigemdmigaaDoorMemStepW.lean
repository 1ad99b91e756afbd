/- granarylaw3.memStep: Write. -/
import Derived.Test.YtnapgigemdmigaaDoorMemStep
import Derived.Test.YtnapgigemdmigaaDoorOwn
import Derived.Test.YtnapgigemdmigaaDoorSplice
import Derived.Test.YtnapgigemdmigaaDoorBase3
import Derived.BigRegion
namespace Go.Proofs.YtnapgigemdmigaaDoor
open Go.RowKit
set_option linter.unusedVariables false

theorem fresh_row (w : World) (o : Obj) (e : TypeId) : ((w.alloc o).alloc (.cells #[] e)).ownsRow (w.heap.size + 1) e 1 (.slice (some ⟨w.heap.size + 1, 0, none⟩) 0 0) 0 [] := by
  have h := World.ownsRow_made (base := w.heap.size + 1) (e := e) (size := 1) (w.alloc o) #[] 0 (by simp) (Nat.zero_le _) rfl
  have e1 : (w.alloc o).heap.size = w.heap.size + 1 := by simp
  rw [e1] at h
  exact h

set_option maxRecDepth 100000 in
set_option maxHeartbeats 4000000 in
theorem mem_step2_bad (b mb rb : Nat) (bs : List Int) (at_ n : Int) (da : Option Addr) (dc : Nat) (ys : List Int) (w : World) (hg : Laid w) (h : MemBoth w b mb rb bs) (x0 : -9223372036854775808 ≤ at_) (x1 : at_ ≤ 9223372036854775807)
    (hnone : da = none → ys.length = 0 ∧ dc = 0) (hy : RdB w da ys) (hlen : ys.length ≤ 140737488351232) (hx : at_ < 0 ∨ (bs.length : Int) < ys.length ∨ (bs.length : Int) - ys.length < at_) :
    Calls Tryd.prog 11 #[.pointer (some ⟨b, 0, none⟩), .slice (some ⟨rb, 0, none⟩) bs.length bs.length, opV 2 at_ n da ys.length dc] w fun e w' => e = .returned (.bool true) ∧ Below w.heap.size w w' := by
  obtain ⟨i0, hi, hz0', hz1, hz2⟩ := info_parts (P := Tryd.prog) (e := 5) (z := .int .u8 0) (size := 1) (bytes := 1) (by kernel_rfl)
  have Hi := Lib.hid hi
  have Hz0 := Lib.hid hz0'
  have Hz1 := Lib.hid hz1
  have Hz2 := Lib.hid hz2
  clear hi hz0' hz1 hz2
  have HM := Lib.hid h
  have hm := h.mem.most
  have HG := Lib.hid hg
  have hpos := hg.pos
  have HX := Lib.hid hx
  have HN := Lib.hid hnone
  have HY := Lib.hid hy
  clear h hg hx hnone hy
  unfold opV
  have HOwn := Lib.hid (fresh_row w (.cells #[.int .i64 2, .int .i64 at_, .int .i64 n, .slice da ys.length dc] 33) 5)
  go_enter Tryd.func11, Tryd.ntmps11
  go_wp2_with (at_builtin; refine wpList_append_any rfl _ _ 30 rfl (w.heap.size + 1) 5 i0 (.int .u8 0) 1 1 Tryd.underlying30 Hi.out Hz0.out Hz1.out Hz2.out rfl (by decide) _ _ _ rfl HOwn.out da ys.length dc (ys.map (Value.int .u8)) rfl HN.out ?q2 ?q3 ?q4 ?q5 ?q6 ?q7 ?_)
  case q2 => simp
  case q3 =>
    intro ad had j u hj
    obtain ⟨x, h1, rfl⟩ : ∃ x, ys[j]? = some x ∧ u = Value.int .u8 x := by
      rw [List.getElem?_map, Option.map_eq_some_iff] at hj
      obtain ⟨x, h1, h2⟩ := hj
      exact ⟨x, h1, h2.symm⟩
    have hjl : j < ys.length := (List.getElem?_eq_some_iff.1 h1).1
    rcases HY.out with h0 | ⟨db, off, h2, h3⟩
    · omega
    · rw [h2] at had
      cases had
      have hc := h3 j hjl
      refine Lib.cell?_alloc_some _ (Lib.cell?_alloc_some _ ?_)
      rw [WideShapes.add_plain, hc]
      simp [List.getD, h1]
  case q4 => intro u hu; obtain ⟨x, _, rfl⟩ := List.mem_map.1 hu; rfl
  case q5 => unfold maxLen; omega
  case q6 => omega
  case q7 => simp
  intro v' w6 hown' hgrow hnil
  have hb2 : Below w.heap.size w ((w.alloc (.cells #[.int .i64 2, .int .i64 at_, .int .i64 n, .slice da ys.length dc] 33)).alloc (.cells #[] 5)) := ((Below.refl _ _).alloc (Nat.le_refl _) _).alloc (by simp) _
  have hbk2 : Blk ((w.alloc (.cells #[.int .i64 2, .int .i64 at_, .int .i64 n, .slice da ys.length dc] 33)).alloc (.cells #[] 5)) w.heap.size #[.int .i64 2, .int .i64 at_, .int .i64 n, .slice da ys.length dc] 33 := (Blk.new w _ _).alloc _
  have hb6 : Below w.heap.size w w6 := hb2.grown hgrow hb2.size (fun k hk => by simp [Value.ownBlock] at hk; omega)
  have hbk6 : Blk w6 w.heap.size _ 33 := hbk2.grown hgrow (fun k hk => by simp [Value.ownBlock] at hk; omega)
  have q1 : w6.cell? ⟨w.heap.size, 1, none⟩ = some (.int .i64 at_) := hbk6.cell 1
  obtain ⟨g, cap, rfl, hg0⟩ : ∃ g cap, v' = .slice (some ⟨g, 0, none⟩) ys.length cap ∧ w.heap.size + 1 ≤ g := by
    rcases hown'.2 with ⟨e, _⟩ | ⟨g, cap, cur, e, h1, _⟩
    · exact absurd (hnil e) (by simp)
    · exact ⟨g, cap, e, h1⟩
  have HB6 := Lib.hid hb6
  have HBK6 := Lib.hid hbk6
  have HO6 := Lib.hid hown'
  have HM6 := Lib.hid (HM.out.below hb6)
  have hs6 := hb6.size
  clear hb2 hbk2 hb6 hbk6 hown' hgrow hnil HOwn
  have HF := Lib.hid (ref_fits bs.length at_ ys.length w6 hm x0 x1 (by omega) (by omega))
  rw [show memFits bs.length at_ ys.length = false from decide_eq_false (by have := HX.out; omega)] at HF
  have EH := Lib.hid (error_hit 1 1 w6 (HG.out.below hpos HB6.out))
  unfold errV at EH
  have HWr := Lib.hid (mem_write_bad b mb bs at_ (some ⟨g, 0, none⟩) ys.length cap w6 HM6.out.mem x0 x1 (by omega) HX.out)
  unfold memRangeErr at HWr
  go_wp2_with fail
  refine HWr.out.mono ?_
  rintro e w' ⟨rfl, rfl⟩
  go_wp2_with fail
  refine HF.out.mono ?_
  rintro e w' ⟨rfl, rfl⟩
  go_wp2_with fail
  refine EH.out.mono ?_
  rintro e w7 ⟨rfl, hw⟩
  have HE := Lib.hid (HB6.out.trans (hw.mono HB6.out.size))
  clear hw EH HF HWr q1
  go_wp2
  go_ret
  exact ⟨rfl, HE.out⟩

/-- the caller's bytes, those from j on as they were -/
def RestBytes (wr : World) (g j : Nat) (ys : List Int) : Prop := ∀ i, i < ys.length → (∃ y, wr.cell? ⟨g, i, none⟩ = some (.int .u8 y) ∧ (j ≤ i → y = ys.getD i 0)) ∧ wr.frozen? ⟨g, i, none⟩ = false
theorem RestBytes.set {wr : World} {g j : Nat} {ys : List Int} (h : RestBytes wr g j ys) (y : Int) : RestBytes (wr.setCell ⟨g, j, none⟩ (.int .u8 y)) g (j + 1) ys := fun k hk => by
  obtain ⟨⟨z, hz, hzj⟩, hf⟩ := h k hk
  refine ⟨?_, by rw [World.frozen?_setCell]; exact hf⟩
  by_cases e : k = j
  · subst e
    exact ⟨y, by rw [World.cell?_setCell_same _ _ _ (by rw [hz])], fun q => by omega⟩
  · exact ⟨z, by rw [World.cell?_setCell_other _ _ _ _ (by simp <;> omega)]; exact hz, fun q => hzj (by omega)⟩
theorem RestBytes.other {wr : World} {g j : Nat} {ys : List Int} (h : RestBytes wr g j ys) (a : Addr) (ha : a.block ≠ g) (v : Value) : RestBytes (wr.setCell a v) g j ys := fun k hk => by
  obtain ⟨⟨z, hz, hzj⟩, hf⟩ := h k hk
  refine ⟨⟨z, by rw [World.cell?_setCell_other _ _ _ _ (by intro e; subst e; exact ha rfl)]; exact hz, hzj⟩, by rw [World.frozen?_setCell]; exact hf⟩

set_option maxRecDepth 100000 in
set_option maxHeartbeats 8000000 in
theorem mem_step2_ok (b mb rb : Nat) (bs : List Int) (p : Nat) (n : Int) (da : Option Addr) (dc : Nat) (ys : List Int) (w : World) (h : MemBoth w b mb rb bs)
    (hnone : da = none → ys.length = 0 ∧ dc = 0) (hy : RdB w da ys) (hyb : ∀ x ∈ ys, 0 ≤ x ∧ x ≤ 255) (hp : p + ys.length ≤ bs.length) :
    Calls Tryd.prog 11 #[.pointer (some ⟨b, 0, none⟩), .slice (some ⟨rb, 0, none⟩) bs.length bs.length, opV 2 p n da ys.length dc] w fun e w' => e = .returned (.bool true) ∧ MemBoth w' b mb rb (splice bs p ys) ∧ Keep (fun q => q = mb ∨ q = rb) w w' := by
  obtain ⟨i0, hi, hz0', hz1, hz2⟩ := info_parts (P := Tryd.prog) (e := 5) (z := .int .u8 0) (size := 1) (bytes := 1) (by kernel_rfl)
  have Hi := Lib.hid hi
  have Hz0 := Lib.hid hz0'
  have Hz1 := Lib.hid hz1
  have Hz2 := Lib.hid hz2
  clear hi hz0' hz1 hz2
  have HM := Lib.hid h
  have hm := h.mem.most
  have HN := Lib.hid hnone
  have HY := Lib.hid hy
  have HYB := Lib.hid hyb
  have hlen : ys.length ≤ 16384 := by omega
  have hrl := h.ref.lt
  have hmbl := h.mem.body.lt
  clear h hnone hy hyb
  unfold opV
  have HOwn := Lib.hid (fresh_row w (.cells #[.int .i64 2, .int .i64 (p : Int), .int .i64 n, .slice da ys.length dc] 33) 5)
  go_enter Tryd.func11, Tryd.ntmps11
  go_wp2_with (at_builtin; refine wpList_append_any rfl _ _ 30 rfl (w.heap.size + 1) 5 i0 (.int .u8 0) 1 1 Tryd.underlying30 Hi.out Hz0.out Hz1.out Hz2.out rfl (by decide) _ _ _ rfl HOwn.out da ys.length dc (ys.map (Value.int .u8)) rfl HN.out ?q2 ?q3 ?q4 ?q5 ?q6 ?q7 ?_)
  case q2 => simp
  case q3 =>
    intro ad had j u hj
    obtain ⟨x, h1, rfl⟩ : ∃ x, ys[j]? = some x ∧ u = Value.int .u8 x := by
      rw [List.getElem?_map, Option.map_eq_some_iff] at hj
      obtain ⟨x, h1, h2⟩ := hj
      exact ⟨x, h1, h2.symm⟩
    have hjl : j < ys.length := (List.getElem?_eq_some_iff.1 h1).1
    rcases HY.out with h0 | ⟨db, off, h2, h3⟩
    · omega
    · rw [h2] at had
      cases had
      have hc := h3 j hjl
      refine Lib.cell?_alloc_some _ (Lib.cell?_alloc_some _ ?_)
      rw [WideShapes.add_plain, hc]
      simp [List.getD, h1]
  case q4 => intro u hu; obtain ⟨x, _, rfl⟩ := List.mem_map.1 hu; rfl
  case q5 => unfold maxLen; omega
  case q6 => omega
  case q7 => simp
  intro v' w6 hown' hgrow hnil
  have hb2 : Below w.heap.size w ((w.alloc (.cells #[.int .i64 2, .int .i64 (p : Int), .int .i64 n, .slice da ys.length dc] 33)).alloc (.cells #[] 5)) := ((Below.refl _ _).alloc (Nat.le_refl _) _).alloc (by simp) _
  have hbk2 : Blk ((w.alloc (.cells #[.int .i64 2, .int .i64 (p : Int), .int .i64 n, .slice da ys.length dc] 33)).alloc (.cells #[] 5)) w.heap.size #[.int .i64 2, .int .i64 (p : Int), .int .i64 n, .slice da ys.length dc] 33 := (Blk.new w _ _).alloc _
  have hb6 : Below w.heap.size w w6 := hb2.grown hgrow hb2.size (fun k hk => by simp [Value.ownBlock] at hk; omega)
  have hbk6 : Blk w6 w.heap.size _ 33 := hbk2.grown hgrow (fun k hk => by simp [Value.ownBlock] at hk; omega)
  have q1 : w6.cell? ⟨w.heap.size, 1, none⟩ = some (.int .i64 (p : Int)) := hbk6.cell 1
  obtain ⟨g, cap, rfl, hg0⟩ : ∃ g cap, v' = .slice (some ⟨g, 0, none⟩) ys.length cap ∧ w.heap.size + 1 ≤ g := by
    rcases hown'.2 with ⟨e, _⟩ | ⟨g, cap, cur, e, h1, _⟩
    · exact absurd (hnil e) (by simp)
    · exact ⟨g, cap, e, h1⟩
  have HB6 := Lib.hid hb6
  have HBK6 := Lib.hid hbk6
  have HO6 := Lib.hid hown'
  have HM6 := Lib.hid (HM.out.below hb6)
  have hs6 := hb6.size
  clear hb2 hbk2 hb6 hbk6 hown' hgrow hnil HOwn
  have HWr := Lib.hid (mem_write_ok b mb bs p (some ⟨g, 0, none⟩) cap ys w6 HM6.out.mem hp (.inr ⟨_, rfl, fun i hi => by
    have := HO6.out.cellAt i (by omega)
    rw [WideShapes.add_plain, Nat.zero_add, this]
    simp [List.getD, hi]⟩) HYB.out)
  go_wp2_with fail
  refine HWr.out.mono ?_
  rintro e w7 ⟨rfl, hm7, hk7⟩
  have hgl := (HO6.out.lt g rfl).2
  have hobl := HBK6.out.lt
  have hgmb : g ≠ mb := by omega
  have hgrb : g ≠ rb := by omega
  have hobmb : w.heap.size ≠ mb := by omega
  have hobrb : w.heap.size ≠ rb := by omega
  have hr7 : Blk w7 rb (bs.map (Value.int .u8)).toArray 5 := hk7.blk HM6.out.ref HM6.out.a2
  have hbk7 : Blk w7 w.heap.size _ 33 := hk7.blk HBK6.out hobmb
  have q7 : w7.cell? ⟨w.heap.size, 1, none⟩ = some (.int .i64 (p : Int)) := hbk7.cell 1
  have hrest : RestBytes w7 g 0 ys := fun i hi => by
    have e1 := HO6.out.cellAt i (by omega)
    have e2 := hk7.cell (p := ⟨g, i, none⟩) hgl hgmb
    have e3 := hk7.frozen (p := ⟨g, i, none⟩) hgl hgmb
    refine ⟨⟨ys.getD i 0, ?_, fun _ => rfl⟩, by rw [e3]; exact HO6.out.frozenAt i⟩
    rw [e2, e1]
    simp [List.getD, hi]
  have HF := Lib.hid (ref_fits bs.length p ys.length w7 hm (by omega) (by omega) (by omega) (by omega))
  rw [show memFits bs.length p ys.length = true from decide_eq_true (by omega)] at HF
  have HM7 := Lib.hid hm7
  have HK7 := Lib.hid hk7
  have HR7 := Lib.hid hr7
  have HBK7 := Lib.hid hbk7
  have HRest := Lib.hid hrest
  have hs7 := hk7.size
  clear q1 hm7 hk7 hr7 hbk7 hrest HWr
  go_wp2_with fail
  refine HF.out.mono ?_
  rintro e w' ⟨rfl, rfl⟩
  clear HF
  go_wp2_with fail
  go_loopw [15] (fun i wr => ∃ j : Nat, j ≤ ys.length ∧ i = .int .i64 j ∧ RestBytes wr g j ys ∧ Blk wr rb ((splice bs p (ys.take j)).map (Value.int .u8)).toArray 5 ∧ Keep (fun q => q = rb ∨ q = g) w7 wr) (fun i _ => ys.length - (intOf i).toNat)
  case atStart => exact ⟨0, Nat.zero_le _, rfl, HRest.out, by simpa [splice] using HR7.out, Keep.refl _ _⟩
  case round =>
    obtain ⟨j, hj, rfl, hrj, hbj, hkj⟩ := hrel
    by_cases hlt : j < ys.length
    · obtain ⟨⟨yj, hyc, hyj⟩, hfj⟩ := hrj j hlt
      obtain rfl := hyj (Nat.le_refl _)
      have y1 : wr.cell? ⟨w.heap.size, 1, none⟩ = some (.int .i64 (p : Int)) := (hkj.cell (p := ⟨w.heap.size, 1, none⟩) HBK7.out.lt (by simp; omega)).trans q7
      have hsl : (splice bs p (ys.take j)).length = bs.length := length_splice _ _ _ (by simp; omega)
      have y3 : wr.cell? ⟨rb, p + j, none⟩ = some (.int .u8 ((splice bs p (ys.take j)).getD (p + j) 0)) := by
        rw [hbj.cell]
        simp [List.getD, List.getElem?_eq_getElem (show p + j < (splice bs p (ys.take j)).length by omega)]
      have f3 := hbj.free (p + j)
      have hset : Blk (wr.setCell ⟨rb, p + j, none⟩ (.int .u8 (ys.getD j 0))) rb ((splice bs p (ys.take (j + 1))).map (Value.int .u8)).toArray 5 := (hbj.set (p + j) (.int .u8 (ys.getD j 0))).of (by
        rw [← splice_set bs p ys j (by omega) (by omega)]
        simp [List.map_set])
      have hkeep : Keep (fun q => q = rb ∨ q = g) w7 (wr.setCell ⟨rb, p + j, none⟩ (.int .u8 (ys.getD j 0))) := hkj.setCell (.inl (.inl rfl)) _
      have hrj2 : RestBytes (wr.setCell ⟨rb, p + j, none⟩ (.int .u8 (ys.getD j 0))) g j ys := hrj.other ⟨rb, p + j, none⟩ (fun e => hgrb e.symm) _
      have hcg : (wr.setCell ⟨rb, p + j, none⟩ (.int .u8 (ys.getD j 0))).cell? ⟨g, j, none⟩ = some (.int .u8 (ys.getD j 0)) := by
        rw [World.cell?_setCell_other _ _ _ _ (by simp <;> omega)]; exact hyc
      have hfg : (wr.setCell ⟨rb, p + j, none⟩ (.int .u8 (ys.getD j 0))).frozen? ⟨g, j, none⟩ = false := by rw [World.frozen?_setCell]; exact hfj
      have Hset := Lib.hid hset
      have Hkeep := Lib.hid hkeep
      have Hrj2 := Lib.hid hrj2
      have Hcg := Lib.hid hcg
      have Hfg := Lib.hid hfg
      have hw : IntKind.i64.wrap ((p : Int) + (j : Int)) = (p : Int) + (j : Int) := IntWalk.i64_in _ (by omega)
      have hpj : p + j < bs.length := by omega
      clear hbj hkj hset hkeep hsl hrj hrj2 hcg hfg hyj
      generalize (splice bs p (ys.take j)).getD (p + j) 0 = old at *
      generalize ys.getD j 0 = yj at *
      go_wp2_with fail
      go_region
      clear y1 y3 f3 hyc hfj
      generalize hwv : wr.setCell ⟨rb, p + j, none⟩ (.int .u8 yj) = wv at *
      have c1 : wv.drew.cell? ⟨g, j, none⟩ = some (.int .u8 yj) := Hcg.out
      have c2 : wv.drew.frozen? ⟨g, j, none⟩ = false := Hfg.out
      have Hr3 := Lib.hid (show RestBytes wv.drew g j ys from Hrj2.out)
      have Hb3 := Lib.hid Hset.out.drew
      have Hk3 := Lib.hid Hkeep.out.drew
      clear hwv Hset Hkeep Hrj2 Hcg Hfg
      generalize wv.drew = wd at *
      go_wp2
      go_roundw
      case rel => exact ⟨j + 1, by omega, by go_num, Hr3.out.set _, Hb3.out.setOther (a := ⟨g, j, none⟩) hgrb _, Hk3.out.setCell (p := ⟨g, j, none⟩) (.inl (.inr rfl)) _⟩
      case measure => simp [intOf]; omega
    · obtain rfl : j = ys.length := by omega
      rw [List.take_of_length_le (Nat.le_refl _)] at hbj
      have hrb := HM.out.a1
      have hrm := HM.out.a2
      have hbl := HM.out.mem.head.lt
      have hgb : g ≠ b := by omega
      have hfin : MemBoth wr b mb rb (splice bs p ys) := ⟨⟨hkj.blk HM7.out.head (by rintro (e | e); exact hrb e.symm; exact hgb e.symm), hkj.blk HM7.out.body (by rintro (e | e); exact hrm e.symm; exact hgmb e.symm), HM7.out.apart, HM7.out.most, HM7.out.byte⟩, hbj, hrb, hrm⟩
      have kp1 : Keep (fun q => q = mb ∨ q = rb ∨ w.heap.size ≤ q) w w6 := Keep.ofBelow HB6.out (fun q h1 h2 => absurd h1 (by omega))
      have kp2 : Keep (fun q => q = mb ∨ q = rb ∨ w.heap.size ≤ q) w6 w7 := HK7.out.mono (fun q _ h => .inl h)
      have kp3 : Keep (fun q => q = mb ∨ q = rb ∨ w.heap.size ≤ q) w7 wr := hkj.mono (fun q _ h => by rcases h with h | h <;> omega)
      have HFin := Lib.hid hfin
      have HKp := Lib.hid (((kp1.trans kp2).trans kp3).mono (S' := fun q => q = mb ∨ q = rb) (fun q h1 h2 => by omega))
      clear hbj hkj hfin kp1 kp2 kp3 hrj
      go_wp2
      go_ret
      exact ⟨rfl, HFin.out, HKp.out⟩
end Go.Proofs.YtnapgigemdmigaaDoor
