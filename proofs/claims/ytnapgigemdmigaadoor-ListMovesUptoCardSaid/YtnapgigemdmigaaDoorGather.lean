/- Contracts of list.Gather and of the laws' filled. -/
import Derived.Test.YtnapgigemdmigaaDoorListW
import Derived.Test.YtnapgigemdmigaaDoorMemW
import Derived.Test.YtnapgigemdmigaaDoorBytes
import Derived.Deep.MidRow
import Derived.Deep.QuietTactic
import Derived.BigQuiet
namespace Go.Proofs.YtnapgigemdmigaaDoor
open Go.RowKit Go.WideShapes
set_option linter.unusedVariables false

theorem splice_all (xs ys : List Int) (h : ys.length = xs.length) : splice ys 0 xs = xs := by
  unfold splice
  simp [h]

set_option maxHeartbeats 2000000 in
theorem filled_big (a : Option Addr) (n c : Nat) (w : World) (h : 16384 < n) (h2 : n ≤ 9223372036854775807) :
    Calls Tryd.prog 15 #[.slice a n c] w fun e w' => e = .returned (.tuple #[.pointer none, .bool false]) ∧ w = w' := by
  go_enter Tryd.func15, Tryd.ntmps15
  go_wp2_with fail
  refine (mem_new_bad n _ (by omega)).mono ?_
  rintro e w' ⟨rfl, rfl⟩
  unfold memRangeErr
  go_wp2
  go_ret2
  exact ⟨rfl, rfl⟩
set_option maxHeartbeats 2000000 in
theorem filled_ok (a : Option Addr) (c : Nat) (xs : List Int) (w : World) (h : xs.length ≤ 16384) (hr : RdB w a xs) (hb : ∀ x ∈ xs, 0 ≤ x ∧ x ≤ 255) :
    Calls Tryd.prog 15 #[.slice a xs.length c] w fun e w' => e = .returned (.tuple #[.pointer (some ⟨w.heap.size + 1, 0, none⟩), .bool true]) ∧ MemAt w' (w.heap.size + 1) w.heap.size xs ∧ Below w.heap.size w w' := by
  have HR := Lib.hid hr
  have HB := Lib.hid hb
  clear hr hb
  go_enter Tryd.func15, Tryd.ntmps15
  go_wp2_with fail
  refine (mem_new_ok xs.length _ h).mono ?_
  rintro e w1 ⟨rfl, hm, hbel⟩
  have hr1 : RdB w1 a xs := by
    rcases HR.out with h0 | ⟨b, off, h1, h2⟩
    · exact .inl h0
    · refine .inr ⟨b, off, h1, fun i hi => ?_⟩
      have hc := h2 i hi
      rw [hbel.cell (p := ⟨b, off + i, none⟩) (cell_lt (a := ⟨b, off + i, none⟩) hc)]
      exact hc
  have HM := Lib.hid hm
  have HBel := Lib.hid hbel
  have HR1 := Lib.hid hr1
  clear hm hbel hr1
  go_wp2_with fail
  refine (mem_write_ok (w.heap.size + 1) w.heap.size (List.replicate xs.length 0) 0 a c xs w1 HM.out (by simp) HR1.out.cells HB.out).mono ?_
  rintro e w2 ⟨rfl, hm2, hk2⟩
  rw [splice_all _ _ (by simp)] at hm2
  have HM2 := Lib.hid hm2
  have HB2 := Lib.hid (HBel.out.trans (hk2.below w.heap.size HBel.out.size (fun k e => by omega)))
  clear hm2 hk2
  go_wp2
  go_quiet (fail)
  go_wp2
  go_ret2
  exact ⟨rfl, HM2.out.drewN _, below_drewN HB2.out _⟩

/-- a slice of segments, read -/
def SegRd (w : World) (a : Option Addr) (segs : List (Int × Int)) : Prop :=
  segs.length = 0 ∨ ∃ b off, a = some ⟨b, off, none⟩ ∧ b < w.heap.size ∧ ∀ i, i < segs.length → w.cell? ⟨b, off + i * 2, none⟩ = some (.int .i64 (segs.getD i (0, 0)).1) ∧ w.cell? ⟨b, off + i * 2 + 1, none⟩ = some (.int .i64 (segs.getD i (0, 0)).2)
theorem SegRd.below {w w' : World} {a : Option Addr} {segs : List (Int × Int)} (h : SegRd w a segs) (hb : Below w.heap.size w w') : SegRd w' a segs := by
  rcases h with h | ⟨b, off, h1, h2, h3⟩
  · exact .inl h
  · refine .inr ⟨b, off, h1, Nat.lt_of_lt_of_le h2 hb.size, fun i hi => ?_⟩
    rw [hb.cell (p := ⟨b, off + i * 2, none⟩) h2, hb.cell (p := ⟨b, off + i * 2 + 1, none⟩) h2]
    exact h3 i hi
theorem SegRd.range {w w' : World} {b off : Nat} {segs : List (Int × Int)} {k : Nat} (h : ∀ i, i < segs.length → w.cell? ⟨b, off + i * 2, none⟩ = some (.int .i64 (segs.getD i (0, 0)).1) ∧ w.cell? ⟨b, off + i * 2 + 1, none⟩ = some (.int .i64 (segs.getD i (0, 0)).2))
    (hb : b < w.heap.size) (hw : Below w.heap.size w w') (hk : k < segs.length) : w'.rangeAt b (off + k * 2) [Value.int .i64 (segs.getD k (0, 0)).1, Value.int .i64 (segs.getD k (0, 0)).2] := by
  intro j v hj
  match j, hj with
  | 0, hj => simp only [List.getElem?_cons_zero, Option.some.injEq] at hj; subst hj; exact (hw.cell (p := ⟨b, off + k * 2 + 0, none⟩) hb).trans (h k hk).1
  | 1, hj => simp only [List.getElem?_cons_succ, List.getElem?_cons_zero, Option.some.injEq] at hj; subst hj; exact (hw.cell (p := ⟨b, off + k * 2 + 1, none⟩) hb).trans (h k hk).2

/-- what Gather tells -/
def gatherRes (bs : List Int) : List (Int × Int) → List Int → Option (List Int)
  | [], acc => some acc
  | s :: t, acc => if memFits bs.length s.1 s.2 then gatherRes bs t (acc ++ (bs.drop s.1.toNat).take s.2.toNat) else none
theorem drop_getD {α : Type} (l : List α) (k : Nat) (d : α) (h : k < l.length) : l.drop k = l.getD k d :: l.drop (k + 1) := by
  rw [List.drop_eq_getElem_cons h]
  simp [List.getD, h]
def GatherEnd (R : Option (List Int)) (w : World) (e : Ending) (w' : World) : Prop :=
  Below w.heap.size w w' ∧ match R with
    | none => e = .returned (.tuple #[.slice none 0 0, memRangeErr])
    | some ds => ∃ v, e = .returned (.tuple #[v, .nilIface]) ∧ w'.ownsRow w.heap.size 5 1 v ds.length (ds.map (Value.int .u8))
structure GatherInv (bs : List Int) (R : Option (List Int)) (segs : List (Int × Int)) (w0 : World) (k : Nat) (v : Value) (acc : List Int) (wr : World) : Prop where
  le : k ≤ segs.length
  sz : acc.length ≤ k * 16384
  own : wr.ownsRow w0.heap.size 5 1 v acc.length (acc.map (Value.int .u8))
  bel : Below w0.heap.size w0 wr
  run : gatherRes bs (segs.drop k) acc = R

set_option maxRecDepth 100000 in
set_option maxHeartbeats 8000000 in
theorem gather_any (b mb : Nat) (bs : List Int) (a : Option Addr) (c : Nat) (segs : List (Int × Int)) (w : World) (hm : MemAt w b mb bs) (hs : SegRd w a segs)
    (hwf : ∀ s ∈ segs, (-9223372036854775808 ≤ s.1 ∧ s.1 ≤ 9223372036854775807) ∧ -9223372036854775808 ≤ s.2 ∧ s.2 ≤ 9223372036854775807) (hbig : segs.length * 16384 ≤ 70368744177664) :
    Calls Tryd.prog 17 #[.pointer (some ⟨b, 0, none⟩), .slice a segs.length c] w (GatherEnd (gatherRes bs segs []) w) := by
  obtain ⟨i0, hi, hz0', hz1, hz2⟩ := info_parts (P := Tryd.prog) (e := 5) (z := .int .u8 0) (size := 1) (bytes := 1) (by kernel_rfl)
  have Hi := Lib.hid hi
  have Hz0 := Lib.hid hz0'
  have Hz1 := Lib.hid hz1
  have Hz2 := Lib.hid hz2
  clear hi hz0' hz1 hz2
  have hmost := hm.most
  have HM := Lib.hid hm
  have HS := Lib.hid hs
  have HW := Lib.hid hwf
  generalize hR : gatherRes bs segs [] = R
  have HI : Hid (GatherInv bs R segs w 0 (.slice none 0 0) [] w) := ⟨Nat.zero_le _, by simp, World.ownsRow_nil _ _ _ _, Below.refl _ _, hR⟩
  clear hm hs hR hwf
  go_enter Tryd.func17, Tryd.ntmps17
  go_wp2_with fail
  go_loopw [6, 13] (fun v i wr => ∃ (k : Nat) (acc : List Int), i = .int .i64 k ∧ GatherInv bs R segs w k v acc wr) (fun _ i _ => segs.length - (intOf i).toNat)
  case atStart => exact ⟨0, [], rfl, HI.out⟩
  case round =>
    clear HI
    obtain ⟨k, acc, rfl, hi⟩ := hrel
    have hk := hi.le
    have hsz := hi.sz
    have HIv := Lib.hid hi
    clear hi
    by_cases hlt : k < segs.length
    · obtain ⟨sb, off, rfl, hsb, hcell⟩ := HS.out.resolve_left (by omega)
      have HRg := Lib.hid (SegRd.range (k := k) hcell hsb HIv.out.bel hlt)
      have hwfk := HW.out (segs.getD k (0, 0)) (by simp [List.getD, hlt])
      have HRun := Lib.hid (show gatherRes bs (segs.getD k (0, 0) :: segs.drop (k + 1)) acc = R by rw [← drop_getD _ _ _ hlt]; exact HIv.out.run)
      clear hcell HS
      generalize segs.getD k (0, 0) = s at *
      obtain ⟨x, n⟩ := s
      simp only [] at hwfk HRg
      obtain ⟨⟨x0, x1⟩, n0, n1⟩ := hwfk
      have HM1 := Lib.hid (HM.out.below HIv.out.bel)
      have HM2 := Lib.hid (HM1.out.below ((Below.refl _ wr).alloc (Nat.le_refl _) (.cells #[.int .i64 x, .int .i64 n] 43)))
      have HO2 := Lib.hid (HIv.out.own.alloc (.cells #[.int .i64 x, .int .i64 n] 43))
      have hsize := HIv.out.bel.size
      have HB2 := Lib.hid (HIv.out.bel.alloc hsize (.cells #[.int .i64 x, .int .i64 n] 43))
      by_cases hf : memFits bs.length x n = true
      · have hf' := (memFits_iff _ _ _).1 hf
        have HRun2 : Hid (gatherRes bs (segs.drop (k + 1)) (acc ++ (bs.drop x.toNat).take n.toNat) = R) := by
          have := HRun.out
          rw [gatherRes] at this
          simp only [hf, if_true] at this
          exact this
        obtain ⟨p, rfl⟩ := Int.eq_ofNat_of_zero_le hf'.1
        obtain ⟨n, rfl⟩ := Int.eq_ofNat_of_zero_le hf'.2.1
        have hpn : p + n ≤ bs.length := by omega
        clear hf hf' HRun x0 x1 n0 n1
        simp only [Int.toNat_natCast] at HRun2
        go_wp2_with (with_reducible refine wpList_load_mid rfl 43 (.tmp 15) rfl sb (off + k * 2) rfl [Value.int .i64 p, Value.int .i64 n] _ HRg.out Tryd.underlying43 rfl (by kernel_rfl) ?_)
        refine (mem_read_ok b mb bs p n _ HM2.out hpn).mono ?_
        rintro e w3 ⟨g, cap, rfl, hown3, hbel3⟩
        have HO3 := Lib.hid (own_below HO2.out hbel3)
        have HG3 := Lib.hid hown3
        have HB3 := Lib.hid (HB2.out.trans (hbel3.mono HB2.out.size))
        have hs3 := HB3.out.size
        have hl3 : (((bs.drop p).take n).map (Value.int .u8)).length = n := by simp; omega
        have HL3 := Lib.hid hl3
        clear hown3 hbel3 hl3 HM2 HO2 HB2 HRg
        go_wp2_with (at_builtin; refine wpList_append_own _ rfl _ _ 30 rfl w.heap.size 5 i0 (.int .u8 0) 1 1 Tryd.underlying30 Hi.out Hz0.out Hz1.out Hz2.out rfl (by decide) _ _ _ rfl HO3.out ⟨g, 0, none⟩ n cap (((bs.drop p).take n).map (Value.int .u8)) rfl ?c0 ?c1 ?c2 ?c3 ?c4 hs3 ?_)
        case c0 => rw [HL3.out, Nat.mul_one]
        case c1 => exact HG3.out.cells rfl
        case c2 => intro u hu; obtain ⟨x, _, rfl⟩ := List.mem_map.1 hu; rfl
        case c3 => unfold maxLen; omega
        case c4 => omega
        intro v' w6 hown' hgrow _
        have HI2 : Hid (GatherInv bs R segs w (k + 1) v' (acc ++ (bs.drop p).take n) w6) := ⟨by omega, by simp; omega, by
          rw [List.map_append, List.length_append, show ((bs.drop p).take n).length = n by have := HL3.out; simpa using this, List.map_take, List.map_drop]
          exact hown', HB3.out.grown hgrow HB3.out.size (fun q hq => (HO3.out.lt q hq).1), HRun2.out⟩
        clear hown' hgrow HO3 HG3 HB3 HRun2 HIv
        go_wp2
        go_roundw
        case rel => exact ⟨k + 1, _, by go_num, HI2.out⟩
        case measure => simp [intOf]; omega
      · have hf' : memFits bs.length x n = false := by simpa using hf
        have HX : Hid (x < 0 ∨ n < 0 ∨ (bs.length : Int) < n ∨ (bs.length : Int) - n < x) := by
          have : ¬ (0 ≤ x ∧ 0 ≤ n ∧ n ≤ bs.length ∧ x ≤ bs.length - n) := of_decide_eq_false hf'
          show _ ∨ _ ∨ _ ∨ _
          omega
        have HR2 : Hid (none = R) := by
          have := HRun.out
          rw [gatherRes] at this
          simp only [hf', Bool.false_eq_true, if_false] at this
          exact this
        clear hf hf' HRun
        go_wp2_with (with_reducible refine wpList_load_mid rfl 43 (.tmp 15) rfl sb (off + k * 2) rfl [Value.int .i64 x, Value.int .i64 n] _ HRg.out Tryd.underlying43 rfl (by kernel_rfl) ?_)
        refine (mem_read_bad b mb bs x n _ HM2.out x0 x1 n0 n1 HX.out).mono ?_
        rintro e w3 ⟨rfl, rfl⟩
        unfold memRangeErr
        clear HRg HM2 HX
        go_wp2
        go_ret2
        refine ⟨HB2.out, ?_⟩
        rw [← HR2.out]
        rfl
    · obtain rfl : k = segs.length := by omega
      have HR2 : Hid (some acc = R) := by
        have := HIv.out.run
        rw [List.drop_length] at this
        exact this
      go_wp2
      go_ret2
      refine ⟨HIv.out.bel, ?_⟩
      rw [← HR2.out]
      exact ⟨_, rfl, HIv.out.own⟩
end Go.Proofs.YtnapgigemdmigaaDoor
