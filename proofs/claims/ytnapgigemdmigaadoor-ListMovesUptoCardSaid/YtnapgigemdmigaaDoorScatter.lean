/- Contracts of list.Scatter. -/
import Derived.Test.YtnapgigemdmigaaDoorGather
import Derived.Lib.MinMax
namespace Go.Proofs.YtnapgigemdmigaaDoor
open Go.RowKit Go.WideShapes
set_option linter.unusedVariables false

/-- how many of the bytes are left behind the segments; none: there are not so many -/
def scatRun : List (Int × Int) → Int → Option Int
  | [], left => some left
  | s :: t, left => if left < max s.2 0 then none else scatRun t (left - max s.2 0)
theorem scatRun_bd : ∀ (segs : List (Int × Int)) (left r : Int), 0 ≤ left → scatRun segs left = some r → 0 ≤ r ∧ r ≤ left
  | [], left, r, h0, h => by cases h; omega
  | s :: t, left, r, h0, h => by
    rw [scatRun] at h
    split at h
    · cases h
    · have := scatRun_bd t _ r (by omega) h
      omega
def scatMem : List Int → List (Int × Int) → List Int → List Int
  | bs, [], _ => bs
  | bs, s :: t, ys => scatMem (splice bs s.1.toNat (ys.take s.2.toNat)) t (ys.drop s.2.toNat)
/-- a slice of bytes elsewhere -/
def Dat (w : World) (mb : Nat) (a : Option Addr) (c : Nat) (ys : List Int) : Prop :=
  ys.length ≤ c ∧ (c = 0 ∨ ∃ db off, a = some ⟨db, off, none⟩ ∧ db ≠ mb ∧ db < w.heap.size ∧ ∀ i, i < ys.length → w.cell? ⟨db, off + i, none⟩ = some (.int .u8 (ys.getD i 0)))

structure ScatInv (R : Option Int) (segs : List (Int × Int)) (L : Nat) (w0 : World) (k : Nat) (left : Int) (wr : World) : Prop where
  le : k ≤ segs.length
  l0 : 0 ≤ left
  l1 : left ≤ L
  bel : Below w0.heap.size w0 wr
  run : scatRun (segs.drop k) left = R

structure ScatPut (bs : List Int) (segs : List (Int × Int)) (ys : List Int) (b mb : Nat) (w0 : World) (k : Nat) (a : Option Addr) (c : Nat) (bk yk : List Int) (wr : World) : Prop where
  le : k ≤ segs.length
  dat : Dat wr mb a c yk
  at_ : MemAt wr b mb bk
  len : bk.length = bs.length
  keep : Keep (· = mb) w0 wr
  mem : scatMem bk (segs.drop k) yk = scatMem bs segs ys
  run : scatRun (segs.drop k) yk.length = some 0
  byte : ∀ x ∈ yk, 0 ≤ x ∧ x ≤ 255
  ybig : yk.length ≤ ys.length

set_option maxRecDepth 100000 in
set_option maxHeartbeats 16000000 in
theorem scatter_any (b mb : Nat) (bs : List Int) (a : Option Addr) (c : Nat) (segs : List (Int × Int)) (da : Option Addr) (dc : Nat) (ys : List Int) (w : World) (hm : MemAt w b mb bs) (hs : SegRd w a segs)
    (hwf : ∀ s ∈ segs, (-9223372036854775808 ≤ s.1 ∧ s.1 ≤ 9223372036854775807) ∧ -9223372036854775808 ≤ s.2 ∧ s.2 ≤ 9223372036854775807) (hbig : segs.length ≤ 70368744177664) (hyl : ys.length ≤ 140737488351232)
    (hd : Dat w mb da dc ys) (hsm : 0 < segs.length → ∀ sb off, a = some ⟨sb, off, none⟩ → sb ≠ mb) (hyb : ∀ x ∈ ys, 0 ≤ x ∧ x ≤ 255) :
    Calls Tryd.prog 18 #[.pointer (some ⟨b, 0, none⟩), .slice a segs.length c, .slice da ys.length dc] w fun e w' =>
      (scatRun segs ys.length = some 0 ∧ (∀ s ∈ segs, memFits bs.length s.1 s.2 = true) ∧ e = .returned .nilIface ∧ MemAt w' b mb (scatMem bs segs ys) ∧ Keep (· = mb) w w') ∨
      (Below w.heap.size w w' ∧ ((scatRun segs ys.length ≠ some 0 ∧ e = .returned shapeErr) ∨ (scatRun segs ys.length = some 0 ∧ (∃ s ∈ segs, memFits bs.length s.1 s.2 = false) ∧ e = .returned memRangeErr))) := by
  have hmost := hm.most
  have HM := Lib.hid hm
  have HS := Lib.hid hs
  have HW := Lib.hid hwf
  have HD := Lib.hid hd
  have HY := Lib.hid hyb
  have HSm := Lib.hid hsm
  obtain ⟨R, hR⟩ : ∃ R, scatRun segs ys.length = R := ⟨_, rfl⟩
  rw [hR]
  have HI : Hid (ScatInv R segs ys.length w 0 ys.length w) := ⟨Nat.zero_le _, by omega, by omega, Below.refl _ _, hR⟩
  have HR := Lib.hid hR
  clear hm hs hR hwf hd hyb hsm
  go_enter Tryd.func18, Tryd.ntmps18
  go_wp2_with fail
  go_loopw [7, 21] (fun l i wr => ∃ (k : Nat) (left : Int), i = .int .i64 k ∧ l = .int .i64 left ∧ ScatInv R segs ys.length w k left wr) (fun _ i _ => segs.length - (intOf i).toNat)
  case atStart => exact ⟨0, _, rfl, rfl, HI.out⟩
  case round =>
    clear HI
    obtain ⟨k, left, rfl, rfl, hi⟩ := hrel
    have hk := hi.le
    have hl0 := hi.l0
    have hl1 := hi.l1
    have HIv := Lib.hid hi
    clear hi
    by_cases hlt : k < segs.length
    · obtain ⟨sb, off, rfl, hsb, hcell⟩ := HS.out.resolve_left (by omega)
      have HRg := Lib.hid (SegRd.range (k := k) hcell hsb HIv.out.bel hlt)
      have hwfk := HW.out (segs.getD k (0, 0)) (by simp [List.getD, hlt])
      have HRun := Lib.hid (show scatRun (segs.getD k (0, 0) :: segs.drop (k + 1)) left = R by rw [← drop_getD _ _ _ hlt]; exact HIv.out.run)
      clear hcell HS
      generalize segs.getD k (0, 0) = s at *
      obtain ⟨x, n⟩ := s
      simp only [] at hwfk HRg
      obtain ⟨⟨x0, x1⟩, n0, n1⟩ := hwfk
      have hsize := HIv.out.bel.size
      have HB2 := Lib.hid (HIv.out.bel.alloc hsize (.cells #[.int .i64 x, .int .i64 n] 43))
      obtain ⟨m, hm⟩ : ∃ m, max n 0 = m := ⟨_, rfl⟩
      have hRun := HRun.out
      rw [scatRun] at hRun
      simp only [hm] at hRun
      have hm0 : 0 ≤ m := by omega
      have hm1 : m ≤ 9223372036854775807 := by omega
      by_cases hlm : left < m
      · rw [if_pos hlm] at hRun
        have HR2 := Lib.hid hRun
        clear hRun HRun
        go_wp2_with (with_reducible refine wpList_load_mid rfl 43 (.tmp 23) rfl sb (off + k * 2) rfl [Value.int .i64 x, Value.int .i64 n] _ HRg.out Tryd.underlying43 rfl (by kernel_rfl) ?_)
        go_ret
        exact .inr ⟨HB2.out, .inl ⟨by rw [← HR2.out]; simp, rfl⟩⟩
      · rw [if_neg hlm] at hRun
        have HI2 : Hid (ScatInv R segs ys.length w (k + 1) (left - m) (wr.alloc (.cells #[.int .i64 x, .int .i64 n] 43))) := ⟨by omega, by omega, by omega, HB2.out, hRun⟩
        clear hRun HRun
        go_wp2_with (with_reducible refine wpList_load_mid rfl 43 (.tmp 23) rfl sb (off + k * 2) rfl [Value.int .i64 x, Value.int .i64 n] _ HRg.out Tryd.underlying43 rfl (by kernel_rfl) ?_)
        go_roundw
        case rel => exact ⟨k + 1, left - m, by go_num, rfl, HI2.out⟩
        case measure => simp [intOf]; omega
    · obtain rfl : k = segs.length := by omega
      have hR2 := HIv.out.run
      rw [List.drop_length] at hR2
      have hR3 : some left = R := hR2
      have HR2 := Lib.hid hR3
      clear hR2 hR3
      by_cases hp : 0 < left
      · go_wp2
        go_ret
        exact .inr ⟨HIv.out.bel, .inl ⟨by rw [← HR2.out]; simp; omega, rfl⟩⟩
      · obtain rfl : left = 0 := by omega
        have HB := Lib.hid HIv.out.bel
        clear HIv
        go_wp2_with fail
        go_loopw [41] (fun i wr => ∃ k : Nat, k ≤ segs.length ∧ i = .int .i64 k ∧ Below w.heap.size w wr ∧ ∀ j, j < k → memFits bs.length (segs.getD j (0, 0)).1 (segs.getD j (0, 0)).2 = true) (fun i _ => segs.length - (intOf i).toNat)
        case atStart => exact ⟨0, Nat.zero_le _, rfl, HB.out, fun j hj => by omega⟩
        case round =>
          clear HB
          obtain ⟨k, hk, rfl, hbr, hfit⟩ := hrel
          have HBr := Lib.hid hbr
          have HFit := Lib.hid hfit
          clear hbr hfit
          have hsize := HBr.out.size
          by_cases hlt : k < segs.length
          · obtain ⟨sb, off, rfl, hsb, hcell⟩ := HS.out.resolve_left (by omega)
            have HRg := Lib.hid (SegRd.range (k := k) hcell hsb HBr.out hlt)
            have hmem : segs.getD k (0, 0) ∈ segs := by simp [List.getD, hlt]
            have hwfk := HW.out (segs.getD k (0, 0)) hmem
            have HMem := Lib.hid hmem
            have HNext : Hid (memFits bs.length (segs.getD k (0, 0)).1 (segs.getD k (0, 0)).2 = true → ∀ j, j < k + 1 → memFits bs.length (segs.getD j (0, 0)).1 (segs.getD j (0, 0)).2 = true) := fun h j hj => by
              by_cases e : j = k
              · subst e; exact h
              · exact HFit.out j (by omega)
            clear hcell HS hmem
            generalize segs.getD k (0, 0) = s at *
            obtain ⟨x, n⟩ := s
            simp only [] at hwfk HRg HNext
            obtain ⟨⟨x0, x1⟩, n0, n1⟩ := hwfk
            have HM2 := Lib.hid (HM.out.below (HBr.out.trans ((Below.refl wr.heap.size wr).alloc (Nat.le_refl _) (.cells #[.int .i64 x, .int .i64 n] 43) |>.mono hsize)))
            have HB2 := Lib.hid (HBr.out.alloc hsize (.cells #[.int .i64 x, .int .i64 n] 43))
            by_cases hf : memFits bs.length x n = true
            · have hf' := (memFits_iff _ _ _).1 hf
              have HN2 := Lib.hid (HNext.out hf)
              obtain ⟨p, rfl⟩ := Int.eq_ofNat_of_zero_le hf'.1
              obtain ⟨n, rfl⟩ := Int.eq_ofNat_of_zero_le hf'.2.1
              have hpn : p + n ≤ bs.length := by omega
              clear hf hf' x0 x1 n0 n1 HNext HMem
              go_wp2_with (with_reducible refine wpList_load_mid rfl 43 (.tmp 43) rfl sb (off + k * 2) rfl [Value.int .i64 p, Value.int .i64 n] _ HRg.out Tryd.underlying43 rfl (by kernel_rfl) ?_)
              refine (mem_read_ok b mb bs p n _ HM2.out hpn).mono ?_
              rintro e w3 ⟨g, cap, rfl, _, hbel3⟩
              have HB3 := Lib.hid (HB2.out.trans (hbel3.mono HB2.out.size))
              clear hbel3 HM2 HB2 HRg
              go_wp2
              go_roundw
              case rel => exact ⟨k + 1, by omega, by go_num, HB3.out, HN2.out⟩
              case measure => simp [intOf]; omega
            · have hf' : memFits bs.length x n = false := by simpa using hf
              have HX : Hid (x < 0 ∨ n < 0 ∨ (bs.length : Int) < n ∨ (bs.length : Int) - n < x) := by
                have : ¬ (0 ≤ x ∧ 0 ≤ n ∧ n ≤ bs.length ∧ x ≤ bs.length - n) := of_decide_eq_false hf'
                show _ ∨ _ ∨ _ ∨ _
                omega
              have HF' := Lib.hid hf'
              clear hf hf' HNext
              go_wp2_with (with_reducible refine wpList_load_mid rfl 43 (.tmp 43) rfl sb (off + k * 2) rfl [Value.int .i64 x, Value.int .i64 n] _ HRg.out Tryd.underlying43 rfl (by kernel_rfl) ?_)
              refine (mem_read_bad b mb bs x n _ HM2.out x0 x1 n0 n1 HX.out).mono ?_
              rintro e w3 ⟨rfl, rfl⟩
              unfold memRangeErr
              clear HRg HM2 HX
              go_wp2
              go_ret
              exact .inr ⟨HB2.out, .inr ⟨HR2.out.symm, ⟨_, HMem.out, HF'.out⟩, rfl⟩⟩
          · obtain rfl : k = segs.length := by omega
            have HAll : Hid (∀ s ∈ segs, memFits bs.length s.1 s.2 = true) := fun s hs => by
              obtain ⟨j, hj, e⟩ := List.mem_iff_getElem.1 hs
              have := HFit.out j hj
              simpa [List.getD, hj, e] using this
            have HMr := Lib.hid (HM.out.below HBr.out)
            have HSr := Lib.hid (HS.out.below HBr.out)
            have HKr : Hid (Keep (· = mb) w wr) := Keep.ofBelow HBr.out (fun q h1 h2 => absurd h1 (by omega))
            have HRun0 : Hid (scatRun segs ys.length = some 0) := by have := HR.out; rw [← HR2.out] at this; exact this
            have HDr : Hid (Dat wr mb da dc ys) := by
              obtain ⟨h1, h2⟩ := HD.out
              refine ⟨h1, h2.imp id ?_⟩
              rintro ⟨db, off, e1, e2, e3, e4⟩
              exact ⟨db, off, e1, e2, Nat.lt_of_lt_of_le e3 HBr.out.size, fun i hi => (HBr.out.cell (p := ⟨db, off + i, none⟩) e3).trans (e4 i hi)⟩
            have HI3 : Hid (ScatPut bs segs ys b mb wr 0 da dc bs ys wr) := ⟨Nat.zero_le _, HDr.out, HMr.out, rfl, Keep.refl _ _, rfl, HRun0.out, HY.out, Nat.le_refl _⟩
            clear HFit HS HD HM HDr HMr
            go_wp2_with fail
            rename World => wq
            go_loopw [2, 60] (fun v i w2 => ∃ (k : Nat) (a2 : Option Addr) (c2 : Nat) (bk yk : List Int), i = .int .i64 k ∧ v = .slice a2 yk.length c2 ∧ ScatPut bs segs ys b mb wq k a2 c2 bk yk w2) (fun _ i _ => segs.length - (intOf i).toNat)
            case atStart => exact ⟨0, da, dc, bs, ys, rfl, rfl, HI3.out⟩
            case round =>
              clear HI3 hk
              obtain ⟨k, a2, c2, bk, yk, rfl, rfl, hi⟩ := hrel
              have hk := hi.le
              have HIv := Lib.hid hi
              clear hi
              by_cases hlt : k < segs.length
              · obtain ⟨sb, off, rfl, hsb, hcell⟩ := HSr.out.resolve_left (by omega)
                have hsbm := HSm.out (by omega) sb off rfl
                have hrg : wr.rangeAt sb (off + k * 2) [Value.int .i64 (segs.getD k (0, 0)).1, Value.int .i64 (segs.getD k (0, 0)).2] := by
                  intro j v hj
                  match j, hj with
                  | 0, hj => simp only [List.getElem?_cons_zero, Option.some.injEq] at hj; subst hj; exact (HIv.out.keep.cell (p := ⟨sb, off + k * 2 + 0, none⟩) hsb hsbm).trans (hcell k hlt).1
                  | 1, hj => simp only [List.getElem?_cons_succ, List.getElem?_cons_zero, Option.some.injEq] at hj; subst hj; exact (HIv.out.keep.cell (p := ⟨sb, off + k * 2 + 1, none⟩) hsb hsbm).trans (hcell k hlt).2
                have HRg := Lib.hid hrg
                have hmem : segs.getD k (0, 0) ∈ segs := by simp [List.getD, hlt]
                have hf := HAll.out _ hmem
                have hRun := show scatRun (segs.getD k (0, 0) :: segs.drop (k + 1)) yk.length = some 0 by rw [← drop_getD _ _ _ hlt]; exact HIv.out.run
                have hPut := show scatMem bk (segs.getD k (0, 0) :: segs.drop (k + 1)) yk = scatMem bs segs ys by rw [← drop_getD _ _ _ hlt]; exact HIv.out.mem
                clear hcell HSr hrg hmem
                generalize segs.getD k (0, 0) = s at *
                obtain ⟨x, n⟩ := s
                simp only [] at HRg hf
                have hf' := (memFits_iff _ _ _).1 hf
                obtain ⟨p, rfl⟩ := Int.eq_ofNat_of_zero_le hf'.1
                obtain ⟨n, rfl⟩ := Int.eq_ofNat_of_zero_le hf'.2.1
                rw [scatRun] at hRun
                simp only [Int.max_eq_left (show (0 : Int) ≤ (n : Int) by omega)] at hRun
                by_cases hnl : (yk.length : Int) < n
                · rw [if_pos hnl] at hRun; cases hRun
                rw [if_neg hnl] at hRun
                have hny : n ≤ yk.length := by omega
                have hpn : p + n ≤ bk.length := by have := HIv.out.len; omega
                have hyc := HIv.out.dat.1
                have hybig := HIv.out.ybig
                have HRun := Lib.hid (show scatRun (segs.drop (k + 1)) ((yk.drop n).length : Int) = some 0 by rw [List.length_drop, show ((yk.length - n : Nat) : Int) = (yk.length : Int) - n by omega]; exact hRun)
                have HPut := Lib.hid (show scatMem (splice bk p (yk.take n)) (segs.drop (k + 1)) (yk.drop n) = scatMem bs segs ys from hPut)
                have htl : (yk.take n).length = n := by simp; omega
                have HTl := Lib.hid htl
                clear hf hf' hRun hPut hnl htl
                have hobm : wr.heap.size ≠ mb := by have := HIv.out.at_.body.lt; omega
                have HM3 := Lib.hid (HIv.out.at_.below ((Below.refl _ wr).alloc (Nat.le_refl _) (.cells #[.int .i64 (p : Int), .int .i64 (n : Int)] 43)))
                have HBk := Lib.hid (Blk.new wr #[.int .i64 (p : Int), .int .i64 (n : Int)] 43)
                have HD3 : Hid (Dat (wr.alloc (.cells #[.int .i64 (p : Int), .int .i64 (n : Int)] 43)) mb a2 c2 yk) := by
                  obtain ⟨h1, h2⟩ := HIv.out.dat
                  refine ⟨h1, h2.imp id ?_⟩
                  rintro ⟨db, off, e1, e2, e3, e4⟩
                  exact ⟨db, off, e1, e2, by simp; omega, fun i hi => Lib.cell?_alloc_some _ (e4 i hi)⟩
                have HK3 := Lib.hid (HIv.out.keep.alloc (.cells #[.int .i64 (p : Int), .int .i64 (n : Int)] 43))
                go_wp2_with (with_reducible refine wpList_load_mid rfl 43 (.tmp 62) rfl sb (off + k * 2) rfl [Value.int .i64 p, Value.int .i64 n] _ HRg.out Tryd.underlying43 rfl (by kernel_rfl) ?_)
                refine wp_still_tail 7 (by kernel_rfl) (by kernel_rfl) ?_
                intro W hW
                have hM4 : MemAt W b mb bk := by subst hW; exact HM3.out.drewN 1
                have hW0 : W.cell? ⟨wr.heap.size, 0, none⟩ = some (.int .i64 (p : Int)) := by subst hW; exact HBk.out.cell 0
                have hW1 : W.cell? ⟨wr.heap.size, 1, none⟩ = some (.int .i64 (n : Int)) := by subst hW; exact HBk.out.cell 1
                have hD4 : Dat W mb a2 c2 yk := by subst hW; exact HD3.out
                have hK4 : Keep (· = mb) wq W := by subst hW; exact HK3.out.drew
                have hWs : W.heap.size = wr.heap.size + 1 := by subst hW; simp
                have HM4 := Lib.hid hM4
                have HD4 := Lib.hid hD4
                have HK4 := Lib.hid hK4
                have HWs := Lib.hid hWs
                clear hW hM4 hD4 hK4 hWs HM3 HBk HD3 HK3 HRg
                simp only [List.take_succ_cons, List.take_zero, List.drop_succ_cons, List.drop_zero]
                have hnc : n ≤ c2 := by omega
                iterate 7 still_step
                refine wpStill_nil ?_
                have hwt := mem_write_ok b mb bk p a2 c2 (yk.take n) W HM4.out (by rw [HTl.out]; exact hpn) (by
                  rw [HTl.out]
                  by_cases h0 : n = 0
                  · exact .inl h0
                  · rcases HD4.out.2 with h1 | ⟨db, off', e1, e2, e3, e4⟩
                    · omega
                    · refine .inr ⟨_, e1, fun i hi => ?_⟩
                      rw [WideShapes.add_plain, e4 i (by omega)]
                      simp [List.getD, hi]) (fun x hx => HIv.out.byte x (List.mem_of_mem_take hx))
                rw [HTl.out] at hwt
                have HWt := Lib.hid hwt
                clear hwt hW0
                go_wp2_with fail
                refine HWt.out.mono ?_
                rintro e w5 ⟨rfl, hm5, hk5⟩
                have hW1 : w5.cell? ⟨wr.heap.size, 1, none⟩ = some (.int .i64 (n : Int)) := (hk5.cell (p := ⟨wr.heap.size, 1, none⟩) (by have := HWs.out; show wr.heap.size < _; omega) hobm).trans hW1
                have HM5 := Lib.hid hm5
                have HK5 := Lib.hid (HK4.out.trans hk5)
                have HD5 : Hid (∀ a', (0 < yk.length - n → ∀ db off', a2 = some ⟨db, off', none⟩ → a' = some ⟨db, off' + n, none⟩) → (c2 - n = 0 ∨ ∃ db off', a' = some ⟨db, off', none⟩ ∧ db ≠ mb ∧ db < w5.heap.size) → Dat w5 mb a' (c2 - n) (yk.drop n)) := by
                  intro a' ha hc
                  refine ⟨by rw [List.length_drop]; omega, ?_⟩
                  rcases hc with hc | ⟨db', off'', e0, e00, e000⟩
                  · exact .inl hc
                  · refine .inr ⟨db', off'', e0, e00, e000, fun i hi => ?_⟩
                    rw [List.length_drop] at hi
                    rcases HD4.out.2 with h1 | ⟨db, off', e1, e2, e3, e4⟩
                    · omega
                    · have h3 := ha (by omega) db off' e1
                      rw [e0] at h3
                      have h3' : db' = db ∧ off'' = off' + n := by simpa using h3
                      rw [h3'.1, h3'.2]
                      have := (hk5.cell (p := ⟨db, off' + (n + i), none⟩) e3 e2).trans (e4 (n + i) (by omega))
                      rw [Nat.add_assoc, this]
                      simp [List.getD, List.getElem?_drop]
                have HD4s : Hid (c2 = 0 ∨ ∃ db off', a2 = some ⟨db, off', none⟩ ∧ db ≠ mb ∧ db < w5.heap.size) := HD4.out.2.imp id (fun ⟨db, off', e1, e2, e3, _⟩ => ⟨db, off', e1, e2, Nat.lt_of_lt_of_le e3 hk5.size⟩)
                have hlen5 : (splice bk p (yk.take n)).length = bs.length := by rw [length_splice _ _ _ (by rw [HTl.out]; exact hpn)]; exact HIv.out.len
                have HPutEnd : Hid (∀ a', Dat w5 mb a' (c2 - n) (yk.drop n) → ScatPut bs segs ys b mb wq (k + 1) a' (c2 - n) (splice bk p (yk.take n)) (yk.drop n) w5) := fun a' hd' =>
                  ⟨by omega, hd', HM5.out, hlen5, HK5.out, HPut.out, HRun.out, fun x hx => HIv.out.byte x (List.mem_of_mem_drop hx), by rw [List.length_drop]; omega⟩
                have HLd : Hid ((yk.drop n).length = yk.length - n) := List.length_drop ..
                clear hm5 hk5 HWt hlen5
                by_cases hcn : c2 = n
                · subst hcn
                  go_wp2
                  go_roundw
                  case rel => exact ⟨k + 1, a2, c2 - c2, _, yk.drop c2, by go_num, by rw [HLd.out]; simp; omega, HPutEnd.out a2 (HD5.out a2 (fun h => by omega) (.inl (by omega)))⟩
                  case measure => simp [intOf]; omega
                · obtain ⟨db, off', rfl, hdm, hdl⟩ := HD4s.out.resolve_left (by omega)
                  go_wp2
                  go_roundw
                  case rel => exact ⟨k + 1, some ⟨db, off' + n, none⟩, c2 - n, _, yk.drop n, by go_num, by rw [HLd.out], HPutEnd.out _ (HD5.out _ (fun _ _ _ e => by cases e; rfl) (.inr ⟨db, off' + n, rfl, hdm, hdl⟩))⟩
                  case measure => simp [intOf]; omega
              · obtain rfl : k = segs.length := by omega
                have hmem := HIv.out.mem
                rw [List.drop_length] at hmem
                have HMm := Lib.hid (show bk = scatMem bs segs ys from hmem)
                have HK2 := Lib.hid (HKr.out.trans HIv.out.keep)
                have HM2 := Lib.hid HIv.out.at_
                clear hmem HIv
                go_wp2
                go_ret
                exact .inl ⟨HR2.out.symm, HAll.out, rfl, by rw [← HMm.out]; exact HM2.out, HK2.out⟩
end Go.Proofs.YtnapgigemdmigaaDoor
