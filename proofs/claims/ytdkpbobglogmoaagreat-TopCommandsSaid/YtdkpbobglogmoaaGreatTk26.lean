/- Parts of the proof of TopCommandsProof: List MemN ListW WalkFn ListBuilt. -/
import Derived.Lib.MinMax
import Derived.Test.YtdkpbobglogmoaaGreatTk14
import Derived.Test.YtdkpbobglogmoaaGreatTk25
set_option linter.unusedVariables false
set_option linter.unusedSimpArgs false
set_option maxRecDepth 100000
set_option maxHeartbeats 32000000
namespace Go.Proofs.YtdkpbobglogmoaaGreat
open Go.RowKit Go.WideShapes
def shapeErr : Value := .iface 54 (.int .i64 2)
theorem aligned_any (x n : Int) (w : World) (hx0 : -9223372036854775808 ≤ x) (hx1 : x ≤ 9223372036854775807) (hn : 0 < n) (hn1 : n ≤ 4096) :
    Calls Tryz.prog 13 #[.int .i64 x, .int .i64 n] w fun e w' => e = .returned (.bool (decide (0 ≤ x ∧ x % n = 0))) ∧ w = w' := by
  have hz : ((n : Int) == 0) = false := by simp; omega
  by_cases h : 0 ≤ x
  · go_enter Tryz.func13, Tryz.ntmps13
    go_wp2
    go_ret
    exact ⟨ret_bool (by rw [Bool.eq_iff_iff]; simp [h]), rfl⟩
  · go_enter Tryz.func13, Tryz.ntmps13
    go_wp2
    go_ret
    exact ⟨ret_bool (by rw [Bool.eq_iff_iff]; simp; omega), rfl⟩
def segCells (l : List (Int × Int)) : List Value := l.flatMap fun s => [.int .i64 s.1, .int .i64 s.2]
theorem segCells_append (a b : List (Int × Int)) : segCells (a ++ b) = segCells a ++ segCells b := by simp [segCells]
def WalkAt (w : World) (wb b : Nat) (left : Int) (segs : List (Int × Int)) : Prop :=
  ∃ v, Blk w wb #[.pointer (some ⟨b, 0, none⟩), .int .i64 left, v] 75 ∧ w.ownsRow (wb + 1) 42 2 v segs.length (segCells segs)
theorem MemAt.under {w w' : World} {b mb B : Nat} {bs : List Int} (h : MemAt w b mb bs) (hb : Below B w w') (h1 : b < B) (h2 : mb < B) : MemAt w' b mb bs :=
  ⟨by have := h.head; unfold Blk at *; rw [hb.block _ h1]; exact this, by have := h.body; unfold Blk at *; rw [hb.block _ h2]; exact this, h.apart, h.most, h.byte⟩
theorem walker_add_bad (wb b mb : Nat) (bs : List Int) (x room left : Int) (segs : List (Int × Int)) (w : World) (hm : MemAt w b mb bs) (hw : WalkAt w wb b left segs)
    (x0 : -9223372036854775808 ≤ x) (x1 : x ≤ 9223372036854775807) (hr0 : 0 ≤ room) (hr1 : room ≤ 64) (hl0 : 0 ≤ left) (hl1 : left ≤ 2048) (hf : memFits bs.length x (min room left) = false) :
    Calls Tryz.prog 20 #[.pointer (some ⟨wb, 0, none⟩), .int .i64 x, .int .i64 room] w fun e w' => e = .returned memRangeErr ∧ w = w' := by
  obtain ⟨v, hb, _⟩ := hw
  have c0 := hb.cell 0
  have c1 := hb.cell 1
  simp only [List.getElem?_toArray, List.getElem?_cons_zero, List.getElem?_cons_succ] at c0 c1
  have HM := Lib.hid hm
  have hmost := hm.most
  have HF : Hid (x < 0 ∨ min room left < 0 ∨ (bs.length : Int) < min room left ∨ (bs.length : Int) - min room left < x) := by
    have : ¬ (0 ≤ x ∧ 0 ≤ min room left ∧ min room left ≤ bs.length ∧ x ≤ bs.length - min room left) := of_decide_eq_false hf
    show _ ∨ _ ∨ _ ∨ _
    omega
  clear hm hb hf
  have hn0 : 0 ≤ min room left := by omega
  have hn1 : min room left ≤ 64 := by omega
  generalize hmin : min room left = n at *
  go_enter Tryz.func20, Tryz.ntmps20
  go_wp2_with fail
  clear hmin
  refine (mem_read_bad b mb bs x n w HM.out x0 x1 (by omega) (by omega) HF.out).mono ?_
  rintro e w' ⟨rfl, rfl⟩
  unfold memRangeErr
  go_wp2
  go_ret
  exact ⟨rfl, rfl⟩
theorem two_news (w : World) (v u : Value) (t : TypeId) (ad : Addr) (had : ad = ⟨w.heap.size, 0, none⟩) : ∀ j x, [v, u][j]? = some x → (w.alloc (.cells #[v, u] t)).cell? (ad.add j) = some x := by
  intro j x hj
  subst had
  match j, hj with
  | 0, hj => simp at hj; subst hj; simp [Addr.add]
  | 1, hj => simp at hj; subst hj; simp [Addr.add]
theorem walker_add_ok (wb b mb : Nat) (bs : List Int) (x room left : Int) (segs : List (Int × Int)) (w : World) (hm : MemAt w b mb bs) (hw : WalkAt w wb b left segs) (hb1 : b < wb) (hb2 : mb < wb) (hsl : segs.length ≤ 4096)
    (hr0 : 0 ≤ room) (hr1 : room ≤ 64) (hl0 : 0 ≤ left) (hl1 : left ≤ 2048) (hf : memFits bs.length x (min room left) = true) :
    Calls Tryz.prog 20 #[.pointer (some ⟨wb, 0, none⟩), .int .i64 x, .int .i64 room] w fun e w' => e = .returned .nilIface ∧ WalkAt w' wb b (left - min room left) (segs ++ [(x, min room left)]) ∧ Below wb w w' := by
  obtain ⟨i0, hi, hz0', hz1, hz2⟩ := info_parts (P := Tryz.prog) (e := 42) (z := .agg #[.int .i64 0, .int .i64 0]) (size := 2) (bytes := 16) (by kernel_rfl)
  have Hi := Lib.hid hi
  have Hz0 := Lib.hid hz0'
  have Hz1 := Lib.hid hz1
  have Hz2 := Lib.hid hz2
  clear hi hz0' hz1 hz2
  obtain ⟨v, hb, hown⟩ := hw
  have hwl := hb.lt
  have c0 := hb.cell 0
  have c1 := hb.cell 1
  simp only [List.getElem?_toArray, List.getElem?_cons_zero, List.getElem?_cons_succ] at c0 c1
  have HM := Lib.hid hm
  have hmost := hm.most
  have HF := (memFits_iff _ _ _).1 hf
  have HB := Lib.hid hb
  have HO := Lib.hid hown
  clear hm hb hf hown
  obtain ⟨n, hmin⟩ := Int.eq_ofNat_of_zero_le (show 0 ≤ min room left by omega)
  rw [hmin] at HF ⊢
  have hnl : (n : Int) ≤ left := by omega
  have hn64 : n ≤ 64 := by omega
  obtain ⟨p, rfl⟩ := Int.eq_ofNat_of_zero_le HF.1
  have hpn : p + n ≤ bs.length := by omega
  clear HF
  go_enter Tryz.func20, Tryz.ntmps20
  go_wp2_with fail
  clear hmin c0 c1
  refine (mem_read_ok b mb bs p n w HM.out hpn).mono ?_
  rintro e w1 ⟨g, cap, rfl, _, hbel⟩
  have hb3 : Blk w1 wb _ _ := (show w1.heap[wb]? = _ by rw [hbel.block _ hwl]; exact HB.out)
  have ho3 : w1.ownsRow (wb + 1) 42 2 v segs.length (segCells segs) := own_below HO.out hbel
  have c1 := hb3.cell 1
  have c2 := hb3.cell 2
  simp only [List.getElem?_toArray, List.getElem?_cons_zero, List.getElem?_cons_succ] at c1 c2
  have f1 := hb3.free 1
  have f2 := hb3.free 2
  have hs1 := hbel.size
  have HB3 := Lib.hid hb3
  have HO3 := Lib.hid ho3
  have HBel := Lib.hid hbel
  clear hb3 ho3 hbel HB HO
  go_wp2_with (at_builtin; refine wpList_append_own _ rfl _ _ 38 rfl (wb + 1) 42 i0 (.agg #[.int .i64 0, .int .i64 0]) 2 16 Tryz.underlying38 Hi.out Hz0.out Hz1.out Hz2.out rfl (by decide) _ _ _ rfl (HO3.out.alloc _) ⟨w1.heap.size, 0, none⟩ 1 1 [.int .i64 p, .int .i64 n] rfl rfl ?c1 ?c2 ?c3 ?c4 ?c5 ?_)
  case c1 => exact two_news _ _ _ _ _ rfl
  case c2 => intro u hu; simp at hu; rcases hu with rfl | rfl <;> rfl
  case c3 => unfold maxLen; omega
  case c4 => omega
  case c5 => show wb + 1 ≤ (World.alloc _ _).heap.size; simp; omega
  intro v' w6 hown' hgrow _
  obtain ⟨g', cap', rfl, _⟩ := own_form hown' (by omega)
  have hb6 : Blk w6 wb _ _ := (HB3.out.alloc (.cells #[.int .i64 p, .int .i64 n] 42)).grown hgrow (fun k hk => by have := (HO3.out.lt k hk).1; omega)
  have hbel6 : Below wb w w6 := ((HBel.out.mono (Nat.le_of_lt hwl)).alloc (by omega) (.cells #[.int .i64 p, .int .i64 n] 42)).grown hgrow (by simp; omega) (fun k hk => by have := (HO3.out.lt k hk).1; omega)
  have c1 := hb6.cell 1
  have c2 := hb6.cell 2
  simp only [List.getElem?_toArray, List.getElem?_cons_zero, List.getElem?_cons_succ] at c1 c2
  have f1 := hb6.free 1
  have f2 := hb6.free 2
  have HB6 := Lib.hid hb6
  have HO6 := Lib.hid hown'
  have HBel6 := Lib.hid hbel6
  clear hb6 hown' hbel6 hgrow HB3 HO3 HBel
  go_wp2
  go_ret
  refine ⟨rfl, Exists.intro (.slice (some ⟨g', 0, none⟩) (segs.length + 1) cap') ⟨?_, ?_⟩, ?_⟩
  · have := (HB6.out.set 2 (.slice (some ⟨g', 0, none⟩) (segs.length + 1) cap')).set 1 (.int .i64 (left - n))
    simpa using this
  · have hk : Keep (· = wb) w6 ((w6.setCell ⟨wb, 2, none⟩ (.slice (some ⟨g', 0, none⟩) (segs.length + 1) cap')).setCell ⟨wb, 1, none⟩ (.int .i64 (left - n))) := ((Keep.refl (· = wb) _).setCell (.inl rfl) _).setCell (.inl rfl) _
    have h2 := own_keep HO6.out hk (fun k hk => by omega)
    rw [segCells_append, List.length_append]
    exact h2
  · exact (HBel6.out.setCell (p := ⟨wb, 2, none⟩) (Nat.le_refl _) _).setCell (p := ⟨wb, 1, none⟩) (Nat.le_refl _) _
end Go.Proofs.YtdkpbobglogmoaaGreat
namespace Go.Proofs.YtdkpbobglogmoaaGreat
open Go.RowKit Go.WideShapes
theorem MemAt.set {w : World} {b mb : Nat} {bs : List Int} (h : MemAt w b mb bs) (q : Nat) (v : Int) (hq : q < bs.length) (hv : 0 ≤ v ∧ v ≤ 255) :
    MemAt (w.setCell ⟨mb, q, none⟩ (.int .u8 v)) b mb (bs.set q v) := by
  refine ⟨?_, ?_, h.apart, by simpa using h.most, ?_⟩
  · have := h.head.setOther (a := ⟨mb, q, none⟩) (fun e => h.apart e.symm) (.int .u8 v)
    simpa using this
  · refine (h.body.set q (.int .u8 v)).of ?_
    rw [List.setIfInBounds_toArray, List.map_set]
  · intro x hx
    rcases List.mem_or_eq_of_mem_set hx with hx | rfl
    · exact h.byte x hx
    · exact hv
def NumRes (ys : List Int) (e : Ending) : Prop := e = .returned (if leNum ys ≤ 4611686018427387904 then .tuple #[.int .i64 (leNum ys), .nilIface] else .tuple #[.int .i64 0, memRangeErr])
theorem mem_number_core (b mb : Nat) (bs : List Int) (p : Nat) (w : World) (h : MemAt w b mb bs) (hp : p + 8 ≤ bs.length) (ys : List Int) (hys : ys = (bs.drop p).take 8) :
    Calls Tryz.prog 37 #[.pointer (some ⟨b, 0, none⟩), .int .i64 p] w fun e w' => NumRes ys e ∧ w = w' := by
  have hl : ys.length = 8 := by subst hys; simp; omega
  have hc := h.cells p 8 hp
  have hpo : partOff p 8 = p := rfl
  rw [hpo] at hc
  have hbyte : ∀ x ∈ ys, 0 ≤ x ∧ x ≤ 255 := fun x hx => by subst hys; exact h.byte x (List.mem_of_mem_drop (List.mem_of_mem_take hx))
  rw [← hys] at hc
  have Hm := Lib.hid h
  have Hc := Lib.hid hc
  have Hl := Lib.hid hl
  have Hy := Lib.hid hbyte
  have hm := h.most
  clear h hc hl hbyte hys hpo
  go_enter Tryz.func37, Tryz.ntmps37
  go_wp2_with fail
  refine (mem_part_ok b mb bs.length p 8 _ Hm.out.c0 Hm.out.most hp).mono ?_
  rintro e w' ⟨rfl, rfl⟩
  rw [show partOff p 8 = p from rfl]
  go_wp2
  go_loop [8, 22] (fun x i => ∃ k : Nat, k ≤ 8 ∧ i = .int .i64 k ∧ x = .int .u64 (leNum (ys.take k))) (fun _ i => 8 - (intOf i).toNat)
  case atStart => exact ⟨0, by omega, rfl, rfl⟩
  case round =>
    obtain ⟨k, hk, rfl, rfl⟩ := hrel
    by_cases hlt : k < 8
    · have c := Hc.out k hlt
      rw [add_plain] at c
      have hbd := leNum_bd (ys.take k) (fun x hx => Hy.out x (List.mem_of_mem_take hx))
      have hsn : leNum (ys.take (k + 1)) = leNum (ys.take k) + 256 ^ k * ys.getD k 0 := by
        have hkl : k < ys.length := by rw [Hl.out]; exact hlt
        have e : ys.take (k + 1) = ys.take k ++ [ys.getD k 0] := by
          rw [List.take_succ_eq_append_getElem hkl]; simp [List.getD, List.getElem?_eq_getElem hkl]
        rw [e, leNum_snoc]; simp [Nat.min_eq_left (Nat.le_of_lt hkl)]
      have hv : 0 ≤ ys.getD k 0 ∧ ys.getD k 0 ≤ 255 := by
        have hkl : k < ys.length := by rw [Hl.out]; exact hlt
        have e : ys.getD k 0 = ys[k] := by simp [List.getD, List.getElem?_eq_getElem hkl]
        rw [e]; exact Hy.out _ (List.getElem_mem _)
      have hkl : (ys.take k).length = k := by simp [Hl.out]; omega
      rw [hkl] at hbd
      have Hsn := Lib.hid hsn
      clear hsn hkl
      generalize ys.getD k 0 = v at *
      generalize leNum (ys.take k) = X at *
      obtain ⟨v0, v1⟩ := hv
      obtain ⟨x0, x1⟩ := hbd
      go_wp2
      go_round
      case rel => exact ⟨k + 1, by omega, by go_num, by rw [or_shift k X v hlt x0 x1 v0 v1, Hsn.out]⟩
      case measure => simp [intOf]; omega
    · obtain rfl : k = 8 := by omega
      have e : ys.take 8 = ys := by rw [← Hl.out]; exact List.take_length
      rw [e]
      have hbd := leNum_bd ys Hy.out
      rw [Hl.out] at hbd
      have e2 : (256 : Int) ^ 8 = 18446744073709551616 := rfl
      rw [e2] at hbd
      clear e2 e
      generalize hX : leNum ys = X at hbd ⊢
      have HX := Lib.hid hX
      clear hX
      obtain ⟨x0, x1⟩ := hbd
      by_cases hX : X ≤ 4611686018427387904
      · go_wp2
        go_ret2
        refine ⟨?_, rfl⟩
        unfold NumRes
        rw [HX.out, if_pos hX]
        rfl
      · have hX' : 4611686018427387904 < X := by omega
        go_wp2
        go_ret2
        refine ⟨?_, rfl⟩
        unfold NumRes
        rw [HX.out, if_neg (by omega)]
        rfl
theorem mem_number_bad (b mb : Nat) (bs : List Int) (p : Int) (w : World) (h : MemAt w b mb bs) (hp0 : -9223372036854775808 ≤ p) (hp1 : p ≤ 9223372036854775807) (hx : p < 0 ∨ (bs.length : Int) - 8 < p) :
    Calls Tryz.prog 37 #[.pointer (some ⟨b, 0, none⟩), .int .i64 p] w fun e w' => e = .returned (.tuple #[.int .i64 0, memRangeErr]) ∧ w = w' := by
  have Hm := Lib.hid h
  have Hx := Lib.hid hx
  clear h hx
  go_enter Tryz.func37, Tryz.ntmps37
  go_wp2_with fail
  refine (mem_part_bad b mb bs.length p 8 _ Hm.out.c0 Hm.out.most hp0 hp1 (by omega) (by omega) (by have := Hx.out; omega)).mono ?_
  rintro e w' ⟨rfl, rfl⟩
  unfold memRangeErr
  go_wp2
  go_ret2
  exact ⟨rfl, rfl⟩
theorem mem_set_ok (b mb : Nat) (bs : List Int) (p : Nat) (x : Int) (w : World) (h : MemAt w b mb bs) (hp : p + 8 ≤ bs.length) (hx0 : 0 ≤ x) (hx1 : x ≤ 4611686018427387904) :
    Calls Tryz.prog 16 #[.pointer (some ⟨b, 0, none⟩), .int .i64 p, .int .i64 x] w fun e w' => e = .returned .nilIface ∧ MemAt w' b mb (splice bs p (leDig 8 x)) ∧ Keep (· = mb) w w' := by
  have Hm := Lib.hid h
  have hm := h.most
  have hbl := h.body.lt
  clear h
  go_enter Tryz.func16, Tryz.ntmps16
  go_wp2_with fail
  refine (mem_part_ok b mb bs.length p 8 _ Hm.out.c0 Hm.out.most hp).mono ?_
  rintro e w' ⟨rfl, rfl⟩
  rw [show partOff p 8 = p from rfl]
  go_wp2
  go_loopw [25] (fun i wr => ∃ k : Nat, k ≤ 8 ∧ i = .int .i64 k ∧ MemAt wr b mb (splice bs p ((leDig 8 x).take k)) ∧ Keep (· = mb) w wr) (fun i _ => 8 - (intOf i).toNat)
  case atStart => exact ⟨0, by omega, rfl, by simpa [splice] using Hm.out, Keep.refl _ _⟩
  case round =>
    obtain ⟨k, hk, rfl, hmr, hkr⟩ := hrel
    by_cases hlt : k < 8
    · have hfree := hmr.body.free (p + k)
      have hcell := hmr.body.cell (p + k)
      have hlen : (splice bs p ((leDig 8 x).take k)).length = bs.length := length_splice _ _ _ (by simp [leDig_length]; omega)
      have hcell' : ∃ v0, wr.cell? ⟨mb, p + k, none⟩ = some v0 := by
        rw [hcell]
        refine ⟨_, Array.getElem?_eq_getElem (by simp [hlen]; omega)⟩
      obtain ⟨v0, hcell'⟩ := hcell'
      have Hmr := Lib.hid hmr
      have Hkr := Lib.hid hkr
      have Hlen := Lib.hid hlen
      clear hmr hkr hlen hcell
      go_wp2
      go_roundw
      case rel =>
        refine ⟨k + 1, by omega, by go_num, ?_, (Hkr.out).setCell (.inl rfl) _⟩
        rw [← splice_set bs p (leDig 8 x) k (by simp [leDig_length]; omega) (by omega)]
        have e : (leDig 8 x).getD k 0 = x / 2 ^ (8 * k) % 256 := by
          rw [leDig_getD 8 x k hlt, Int.pow_mul]; rfl
        rw [e]
        exact Hmr.out.set (p + k) _ (by rw [Hlen.out]; omega) (by omega)
      case measure => simp [intOf]; omega
    · obtain rfl : k = 8 := by omega
      have e : (leDig 8 x).take 8 = leDig 8 x := by rw [← leDig_length 8 x]; exact List.take_length
      rw [e] at hmr
      clear e
      go_wp2
      go_ret
      exact ⟨rfl, hmr, hkr⟩
end Go.Proofs.YtdkpbobglogmoaaGreat
namespace Go.Proofs.YtdkpbobglogmoaaGreat
open Go.RowKit Go.WideShapes
def errOf (k : Int) : Value := if k = 0 then .nilIface else .iface 54 (.int .i64 k)
theorem mem_number_any (b mb : Nat) (bs : List Int) (p : Int) (w : World) (h : MemAt w b mb bs) (hp0 : -9223372036854775808 ≤ p) (hp1 : p ≤ 9223372036854775807) :
    Calls Tryz.prog 37 #[.pointer (some ⟨b, 0, none⟩), .int .i64 p] w fun e w' => e = .returned (match numRd bs p with | none => .tuple #[.int .i64 0, memRangeErr] | some x => .tuple #[.int .i64 x, .nilIface]) ∧ w = w' := by
  by_cases hf : memFits bs.length p 8 = true
  · have hf' := (memFits_iff _ _ _).1 hf
    obtain ⟨q, rfl⟩ := Int.eq_ofNat_of_zero_le hf'.1
    refine (mem_number_core b mb bs q w h (by omega) _ rfl).mono ?_
    rintro e w' ⟨he, rfl⟩
    refine ⟨?_, rfl⟩
    unfold NumRes at he
    rw [he]
    unfold numRd numOk
    rw [hf]
    simp only [Int.toNat_natCast, Bool.true_and, decide_eq_true_eq]
    split <;> rfl
  · have hf' : ¬ (0 ≤ p ∧ 0 ≤ (8 : Int) ∧ (8 : Int) ≤ bs.length ∧ p ≤ bs.length - 8) := fun q => hf ((memFits_iff _ _ _).2 q)
    refine (mem_number_bad b mb bs p w h hp0 hp1 (by omega)).mono ?_
    rintro e w' ⟨rfl, rfl⟩
    refine ⟨?_, rfl⟩
    unfold numRd
    rw [show memFits bs.length p 8 = false by simpa using hf]
    rfl
theorem walker_whole_shape (wb : Nat) (x : Int) (w : World) (x0 : -9223372036854775808 ≤ x) (x1 : x ≤ 9223372036854775807) (hp : pageOk x = false) :
    Calls Tryz.prog 22 #[.pointer (some ⟨wb, 0, none⟩), .int .i64 x] w fun e w' => e = .returned shapeErr ∧ w = w' := by
  have HA := Lib.hid (aligned_any x 64 w x0 x1 (by omega) (by omega))
  rw [show decide (0 ≤ x ∧ x % 64 = 0) = false from hp] at HA
  clear hp
  go_enter Tryz.func22, Tryz.ntmps22
  go_wp2_with fail
  refine HA.out.mono ?_
  rintro e w' ⟨rfl, rfl⟩
  go_wp2
  go_ret
  exact ⟨rfl, rfl⟩
theorem walker_whole_bad (wb b mb : Nat) (bs : List Int) (x left : Int) (segs : List (Int × Int)) (w : World) (hm : MemAt w b mb bs) (hw : WalkAt w wb b left segs)
    (x0 : -9223372036854775808 ≤ x) (x1 : x ≤ 9223372036854775807) (hp : pageOk x = true) (hl0 : 0 ≤ left) (hl1 : left ≤ 2048) (hf : memFits bs.length x (min 64 left) = false) :
    Calls Tryz.prog 22 #[.pointer (some ⟨wb, 0, none⟩), .int .i64 x] w fun e w' => e = .returned memRangeErr ∧ w = w' := by
  have HA := Lib.hid (aligned_any x 64 w x0 x1 (by omega) (by omega))
  rw [show decide (0 ≤ x ∧ x % 64 = 0) = true from hp] at HA
  have HW := Lib.hid (walker_add_bad wb b mb bs x 64 left segs w hm hw x0 x1 (by omega) (by omega) hl0 hl1 hf)
  clear hp hm hw hf
  go_enter Tryz.func22, Tryz.ntmps22
  go_wp2_with fail
  refine HA.out.mono ?_
  rintro e w' ⟨rfl, rfl⟩
  go_wp2_with fail
  refine HW.out.mono ?_
  rintro e w' ⟨rfl, rfl⟩
  unfold memRangeErr
  go_wp2
  go_ret
  exact ⟨rfl, rfl⟩
theorem walker_whole_ok (wb b mb : Nat) (bs : List Int) (x left : Int) (segs : List (Int × Int)) (w : World) (hm : MemAt w b mb bs) (hw : WalkAt w wb b left segs) (hb1 : b < wb) (hb2 : mb < wb) (hsl : segs.length ≤ 4096)
    (x0 : -9223372036854775808 ≤ x) (x1 : x ≤ 9223372036854775807) (hp : pageOk x = true) (hl0 : 0 ≤ left) (hl1 : left ≤ 2048) (hf : memFits bs.length x (min 64 left) = true) :
    Calls Tryz.prog 22 #[.pointer (some ⟨wb, 0, none⟩), .int .i64 x] w fun e w' => e = .returned .nilIface ∧ WalkAt w' wb b (left - min 64 left) (segs ++ [(x, min 64 left)]) ∧ Below wb w w' := by
  have HA := Lib.hid (aligned_any x 64 w x0 x1 (by omega) (by omega))
  rw [show decide (0 ≤ x ∧ x % 64 = 0) = true from hp] at HA
  have HW := Lib.hid (walker_add_ok wb b mb bs x 64 left segs w hm hw hb1 hb2 hsl (by omega) (by omega) hl0 hl1 hf)
  clear hp hm hw hf
  go_enter Tryz.func22, Tryz.ntmps22
  go_wp2_with fail
  refine HA.out.mono ?_
  rintro e w' ⟨rfl, rfl⟩
  go_wp2_with fail
  refine HW.out.mono ?_
  rintro e w' ⟨rfl, h1, h2⟩
  have H1 := Lib.hid h1
  have H2 := Lib.hid h2
  clear h1 h2 HW HA
  go_wp2
  go_ret
  exact ⟨rfl, H1.out, H2.out⟩
def ListEnd (R : Int × List (Int × Int)) (wb b : Nat) (w : World) (e : Ending) (w' : World) : Prop :=
  e = .returned (errOf R.1) ∧ (R.1 = 0 → WalkAt w' wb b 0 R.2) ∧ Below wb w w'
def leftOf (w : World) (wb : Nat) : Int := match w.cell? ⟨wb, 1, none⟩ with | some (.int _ n) => n | _ => 0
theorem WalkAt.left {w : World} {wb b : Nat} {left : Int} {segs : List (Int × Int)} (h : WalkAt w wb b left segs) : leftOf w wb = left := by
  obtain ⟨v, hb, _⟩ := h
  have := hb.cell 1
  simp only [List.getElem?_toArray, List.getElem?_cons_zero, List.getElem?_cons_succ] at this
  unfold leftOf; rw [this]
theorem WalkAt.c0 {w : World} {wb b : Nat} {left : Int} {segs : List (Int × Int)} (h : WalkAt w wb b left segs) : w.cell? ⟨wb, 0, none⟩ = some (.pointer (some ⟨b, 0, none⟩)) := by
  obtain ⟨v, hb, _⟩ := h
  have := hb.cell 0
  simpa using this
theorem WalkAt.c1 {w : World} {wb b : Nat} {left : Int} {segs : List (Int × Int)} (h : WalkAt w wb b left segs) : w.cell? ⟨wb, 1, none⟩ = some (.int .i64 left) := by
  obtain ⟨v, hb, _⟩ := h
  have := hb.cell 1
  simpa using this
structure ListInv (bs : List Int) (R : Int × List (Int × Int)) (wb b : Nat) (w0 : World) (p left : Int) (segs : List (Int × Int)) (f : Nat) (wr : World) : Prop where
  p0 : 0 ≤ p
  p1 : p ≤ 9223372036854775807
  p8 : p % 8 = 0
  l0 : 0 ≤ left
  l1 : left ≤ 2048
  sl : (segs.length : Int) + left ≤ 2060
  walk : WalkAt wr wb b left segs
  bel : Below wb w0 wr
  run : listRun bs f p left segs = R
  most : listMost p left ≤ f
theorem numRd_bd {bs : List Int} {p x : Int} (hL : bs.length ≤ 16384) (h : numRd bs p = some x) (hb : ∀ x ∈ bs, 0 ≤ x ∧ x ≤ 255) : 0 ≤ p ∧ p + 8 ≤ 16384 ∧ 0 ≤ x ∧ x ≤ 4611686018427387904 := by
  unfold numRd at h
  split at h
  · next hc =>
    rw [Bool.and_eq_true] at hc
    have h1 := (memFits_iff _ _ _).1 hc.1
    have h2 : leNum ((bs.drop p.toNat).take 8) ≤ 4611686018427387904 := of_decide_eq_true hc.2
    cases h
    have h3 := (leNum_bd ((bs.drop p.toNat).take 8) (fun x hx => hb x (List.mem_of_mem_drop (List.mem_of_mem_take hx)))).1
    exact ⟨by omega, by omega, h3, h2⟩
  · cases h
theorem walker_list_in (wb b mb : Nat) (bs : List Int) (p left : Int) (segs : List (Int × Int)) (w : World) (hm : MemAt w b mb bs) (hw : WalkAt w wb b left segs) (hb1 : b < wb) (hb2 : mb < wb) (hsl : segs.length ≤ 10)
    (x1 : p ≤ 9223372036854775807) (hl0 : 0 ≤ left) (hl1 : left ≤ 2048) (hp0 : 0 ≤ p) (hp8 : p % 8 = 0) :
    Calls Tryz.prog 21 #[.pointer (some ⟨wb, 0, none⟩), .int .i64 p] w (ListEnd (listRun bs (listMost p left) p left segs) wb b w) := by
  have hmost := hm.most
  have HM := Lib.hid hm
  generalize hR : listRun bs (listMost p left) p left segs = R
  have HI : Hid (ListInv bs R wb b w p left segs (listMost p left) w) := ⟨hp0, x1, hp8, hl0, hl1, by omega, hw, Below.refl _ _, hR, Nat.le_refl _⟩
  have HA := Lib.hid (aligned_any p 8 w (by omega) x1 (by omega) (by omega))
  rw [show decide (0 ≤ p ∧ p % 8 = 0) = true from decide_eq_true ⟨hp0, hp8⟩] at HA
  clear hm hw hR
  go_enter Tryz.func21, Tryz.ntmps21
  go_wp2_with fail
  refine HA.out.mono ?_
  rintro e w' ⟨rfl, rfl⟩
  clear HA
  go_wp2_with fail
  go_loopw [1] (fun v wr => ∃ (q l : Int) (sg : List (Int × Int)) (f : Nat), v = .int .i64 q ∧ ListInv bs R wb b w q l sg f wr) (fun v wr => listMost (intOf v) (leftOf wr wb))
  case atStart => exact ⟨p, left, segs, _, rfl, HI.out⟩
  case round =>
    clear HI hp8 hp0 x1 hl0 hl1 hsl
    obtain ⟨p, left, segs, f, rfl, hi⟩ := hrel
    have c0 := hi.walk.c0
    have c1 := hi.walk.c1
    have hl0 := hi.l0
    have hl1 := hi.l1
    have hp0 := hi.p0
    have hp1 := hi.p1
    have hp8 := hi.p8
    have HIv := Lib.hid hi
    have HM1 := Lib.hid (HM.out.under hi.bel hb1 hb2)
    have HLf := Lib.hid hi.walk.left
    clear hi
    by_cases hz : left ≤ 0
    · obtain rfl : left = 0 := by omega
      have HR := HIv.out.run
      rw [show listRun bs f p 0 segs = (0, segs) by cases f <;> simp [listRun]] at HR
      have HR' := Lib.hid HR
      clear HR
      go_wp2
      go_ret
      refine ⟨by rw [← HR'.out]; rfl, fun _ => by rw [← HR'.out]; exact HIv.out.walk, HIv.out.bel⟩
    · have hz' : 0 < left := by omega
      obtain ⟨f, rfl⟩ : ∃ g, f = g + 1 := ⟨f - 1, by
        have := HIv.out.most
        unfold listMost at this
        omega⟩
      have HN := Lib.hid (mem_number_any b mb bs p wr HM1.out (by omega) hp1)
      cases hx : numRd bs p with
      | none =>
        rw [hx] at HN
        have HR := HIv.out.run
        rw [listRun, if_neg (by omega), hx] at HR
        have HR' := Lib.hid HR
        clear HR hx
        unfold memRangeErr at HN
        go_wp2_with fail
        refine HN.out.mono ?_
        rintro e w' ⟨rfl, rfl⟩
        clear HN c0 c1
        go_wp2
        go_ret
        exact ⟨by rw [← HR'.out]; rfl, (fun q => by rw [← HR'.out] at q; cases q), HIv.out.bel⟩
      | some x =>
        rw [hx] at HN
        have hbd := numRd_bd hmost hx HM1.out.byte
        obtain ⟨_, hp16, hx0, hx1⟩ := hbd
        have hw8 : IntKind.i64.wrap (p + 8) = p + 8 := IntWalk.i64_in _ (by omega)
        have HR := HIv.out.run
        rw [listRun, if_neg (by omega), hx] at HR
        simp only [] at HR
        have HX := Lib.hid hx
        clear hx
        by_cases hm56 : p % 64 = 56 ∧ 64 < left
        · have h56 : ((p + 8) % 64 == 0) = true := by have := hm56.1; simp; omega
          have h64 : 64 < left := hm56.2
          have HAl := Lib.hid (aligned_any x 64 wr (by omega) (by omega) (by omega) (by omega))
          cases hpg : pageOk x with
          | false =>
            rw [show decide (0 ≤ x ∧ x % 64 = 0) = false from hpg] at HAl
            rw [hpg, if_pos rfl] at HR
            have HR' := Lib.hid HR
            clear HR hpg hm56
            go_wp2_with fail
            refine HN.out.mono ?_
            rintro e w' ⟨rfl, rfl⟩
            clear HN
            go_wp2_with fail
            refine HAl.out.mono ?_
            rintro e w' ⟨rfl, rfl⟩
            clear HAl c0 c1
            go_wp2
            go_ret
            exact ⟨by rw [← HR'.out]; rfl, (fun q => by rw [← HR'.out] at q; cases q), HIv.out.bel⟩
          | true =>
            rw [show decide (0 ≤ x ∧ x % 64 = 0) = true from hpg] at HAl
            have hpg' := (pageOk_iff x).1 hpg
            rw [hpg, if_neg (by simp), if_pos hm56] at HR
            have HR' := Lib.hid HR
            have hp56 := hm56.1
            clear HR hpg hm56
            go_wp2_with fail
            refine HN.out.mono ?_
            rintro e w' ⟨rfl, rfl⟩
            clear HN
            go_wp2_with fail
            refine HAl.out.mono ?_
            rintro e w' ⟨rfl, rfl⟩
            clear HAl c0 c1
            go_wp2
            go_roundw
            case rel =>
              refine ⟨x, left, segs, f, rfl, hx0, by omega, by omega, hl0, hl1, HIv.out.sl, HIv.out.walk, HIv.out.bel, HR'.out, ?_⟩
              have := HIv.out.most
              unfold listMost at this ⊢
              rw [if_pos hp56] at this
              rw [if_neg (by omega)]
              omega
            case measure =>
              simp only [intOf, HLf.out]
              unfold listMost
              rw [if_pos hp56, if_neg (by omega)]
              omega
        · have HW1 := fun (h : pageOk x = false) => walker_whole_shape wb x wr (by omega) (by omega) h
          have hc : decide ((p + 8) % 64 = 0 ∧ 64 < left) = false := decide_eq_false (by omega)
          cases hpg : pageOk x with
          | false =>
            have HWH := Lib.hid (walker_whole_shape wb x wr (by omega) (by omega) hpg)
            unfold shapeErr at HWH
            rw [hpg, if_pos rfl] at HR
            have HR' := Lib.hid HR
            clear HR hpg hc HW1
            by_cases h56 : p % 64 = 56
            all_goals
              go_wp2_with fail
              refine HN.out.mono ?_
              rintro e w' ⟨rfl, rfl⟩
              go_wp2_with fail
              refine HWH.out.mono ?_
              rintro e w' ⟨rfl, rfl⟩
              clear HN HWH c0 c1
              go_wp2
              go_ret
              exact ⟨by rw [← HR'.out]; rfl, (fun q => by rw [← HR'.out] at q; cases q), HIv.out.bel⟩
          | true =>
            have hpg' := (pageOk_iff x).1 hpg
            rw [hpg, if_neg (by simp), if_neg hm56] at HR
            cases hf : memFits bs.length x (min 64 left) with
            | false =>
              have HWH := Lib.hid (walker_whole_bad wb b mb bs x left segs wr HM1.out HIv.out.walk (by omega) (by omega) hpg hl0 hl1 hf)
              unfold memRangeErr at HWH
              rw [hf, if_neg (by simp)] at HR
              have HR' := Lib.hid HR
              clear HR hpg hc HW1 hf
              by_cases h56 : p % 64 = 56
              all_goals
                go_wp2_with fail
                refine HN.out.mono ?_
                rintro e w' ⟨rfl, rfl⟩
                go_wp2_with fail
                refine HWH.out.mono ?_
                rintro e w' ⟨rfl, rfl⟩
                clear HN HWH c0 c1
                go_wp2
                go_ret
                exact ⟨by rw [← HR'.out]; rfl, (fun q => by rw [← HR'.out] at q; cases q), HIv.out.bel⟩
            | true =>
              have hsl := HIv.out.sl
              have HWH := Lib.hid (walker_whole_ok wb b mb bs x left segs wr HM1.out HIv.out.walk hb1 hb2 (by omega) (by omega) (by omega) hpg hl0 hl1 hf)
              rw [hf, if_pos rfl] at HR
              have HR' := Lib.hid HR
              clear HR hpg hc HW1 hf
              have hmin0 : 1 ≤ min 64 left := by omega
              have hmin1 : min 64 left ≤ left := by omega
              have hmin2 : 64 < left → min 64 left = 64 := by omega
              generalize min 64 left = n at *
              by_cases h56 : p % 64 = 56
              all_goals
                go_wp2_with fail
                refine HN.out.mono ?_
                rintro e w' ⟨rfl, rfl⟩
                go_wp2_with fail
                refine HWH.out.mono ?_
                rintro e w2 ⟨rfl, hw2, hbel2⟩
                have HW2 := Lib.hid hw2
                have HL2 := Lib.hid hw2.left
                have HB2 := Lib.hid (HIv.out.bel.trans hbel2)
                clear hw2 hbel2 HN HWH c0 c1
                go_wp2
                go_roundw
                case rel =>
                  refine ⟨p + 8, left - n, segs ++ [(x, n)], f, rfl, by omega, by omega, by omega, by omega, by omega, ?_, HW2.out, HB2.out, HR'.out, ?_⟩
                  · simp only [List.length_append, List.length_singleton]; omega
                  · have := HIv.out.most
                    unfold listMost at this ⊢
                    split at this <;> split <;> omega
                case measure =>
                  simp only [intOf, HLf.out, HL2.out]
                  unfold listMost
                  split <;> first | omega | (split <;> omega)
end Go.Proofs.YtdkpbobglogmoaaGreat
namespace Go.Proofs.YtdkpbobglogmoaaGreat
open Go.RowKit Go.WideShapes
def WalkEnd (R : Int × List (Int × Int)) (w : World) (e : Ending) (w' : World) : Prop :=
  Below w.heap.size w w' ∧ (R.1 ≠ 0 → e = .returned (.tuple #[.slice none 0 0, .iface 54 (.int .i64 R.1)])) ∧
  (R.1 = 0 → ∃ v, e = .returned (.tuple #[v, .nilIface]) ∧ w'.ownsRow w.heap.size 42 2 v R.2.length (segCells R.2))
theorem WalkEnd.bad {w w' : World} (k : Int) (hk : k ≠ 0) (hb : Below w.heap.size w w') : WalkEnd (k, []) w (.returned (.tuple #[.slice none 0 0, .iface 54 (.int .i64 k)])) w' :=
  ⟨hb, fun _ => rfl, fun h => absurd h hk⟩
theorem WalkAt.out {w w0 : World} {b : Nat} {left : Int} {segs : List (Int × Int)} (h : WalkAt w w0.heap.size b left segs) : ∃ v, w.cell? ⟨w0.heap.size, 2, none⟩ = some v ∧ w.ownsRow w0.heap.size 42 2 v segs.length (segCells segs) := by
  obtain ⟨v, hb, ho⟩ := h
  have := hb.cell 2
  refine ⟨v, by simpa using this, ?_⟩
  obtain ⟨hl, h | ⟨g, cap, cur, hv, h1, h2⟩⟩ := ho
  · exact ⟨hl, .inl h⟩
  · exact ⟨hl, .inr ⟨g, cap, cur, hv, by omega, h2⟩⟩
theorem walk_early (b mb : Nat) (bs : List Int) (first second long : Int) (w : World) (f0 : -9223372036854775808 ≤ first) (f1 : first ≤ 9223372036854775807) (l0 : -9223372036854775808 ≤ long) (l1 : long ≤ 9223372036854775807)
    (h : long < 1 ∨ 2048 < long ∨ first % 4 ≠ 0 ∨ first < 0) :
    Calls Tryz.prog 9 #[.pointer (some ⟨b, 0, none⟩), .int .i64 first, .int .i64 second, .int .i64 long] w (WalkEnd (walkRes bs first second long) w) := by
  have ht : Int.tmod first 4 = 0 ↔ first % 4 = 0 := by
    rw [← Int.dvd_iff_tmod_eq_zero, ← Int.dvd_iff_emod_eq_zero]
  unfold walkRes
  by_cases c1 : long < 1
  · rw [if_pos (.inl c1)]
    go_enter Tryz.func9, Tryz.ntmps9
    go_wp2
    go_ret2
    exact WalkEnd.bad 1 (by omega) (Below.refl _ _)
  by_cases c2 : 2048 < long
  · rw [if_pos (.inr c2)]
    go_enter Tryz.func9, Tryz.ntmps9
    go_wp2
    go_ret2
    exact WalkEnd.bad 1 (by omega) (Below.refl _ _)
  rw [if_neg (by omega)]
  by_cases c3 : first % 4 = 0
  · have c4 : first < 0 := by omega
    rw [if_neg (by omega), if_pos c4]
    have hb : (Int.tmod first 4 == 0) = true := by simp; exact ht.2 c3
    have hb2 : (Int.tmod first 4 != 0) = false := by simp; exact ht.2 c3
    clear ht c3 h
    go_enter Tryz.func9, Tryz.ntmps9
    go_wp2
    go_ret2
    exact WalkEnd.bad 1 (by omega) (Below.refl _ _)
  · rw [if_pos c3]
    by_cases c5 : 0 ≤ first
    · have hb : (first % 4 == 0) = false := by simp; exact c3
      have hb2 : (first % 4 != 0) = true := by simp; exact c3
      clear ht c3 h
      go_enter Tryz.func9, Tryz.ntmps9
      go_wp2
      go_ret2
      exact WalkEnd.bad 2 (by omega) (Below.refl _ _)
    · have hb : (Int.tmod first 4 == 0) = false := by simp; exact fun q => c3 (ht.1 q)
      have hb2 : (Int.tmod first 4 != 0) = true := by simp; exact fun q => c3 (ht.1 q)
      clear ht c3 h
      go_enter Tryz.func9, Tryz.ntmps9
      go_wp2
      go_ret2
      exact WalkEnd.bad 2 (by omega) (Below.refl _ _)
theorem walker_list_shape (wb : Nat) (x : Int) (w : World) (x0 : -9223372036854775808 ≤ x) (x1 : x ≤ 9223372036854775807) (hp : x < 0 ∨ x % 8 ≠ 0) :
    Calls Tryz.prog 21 #[.pointer (some ⟨wb, 0, none⟩), .int .i64 x] w fun e w' => e = .returned shapeErr ∧ w = w' := by
  have HA := Lib.hid (aligned_any x 8 w x0 x1 (by omega) (by omega))
  rw [show decide (0 ≤ x ∧ x % 8 = 0) = false from decide_eq_false (by omega)] at HA
  clear hp
  go_enter Tryz.func21, Tryz.ntmps21
  go_wp2_with fail
  refine HA.out.mono ?_
  rintro e w' ⟨rfl, rfl⟩
  go_wp2
  go_ret
  exact ⟨rfl, rfl⟩
theorem walk_late (b mb : Nat) (bs : List Int) (first second long : Int) (w : World) (hm : MemAt w b mb bs) (f1 : first ≤ 9223372036854775807) (s0 : -9223372036854775808 ≤ second) (s1 : second ≤ 9223372036854775807)
    (h1 : 1 ≤ long) (h2 : long ≤ 2048) (h3 : first % 4 = 0) (h4 : 0 ≤ first) :
    Calls Tryz.prog 9 #[.pointer (some ⟨b, 0, none⟩), .int .i64 first, .int .i64 second, .int .i64 long] w (WalkEnd (walkRes bs first second long) w) := by
  have hmb := hm.body.lt
  have hbb := hm.head.lt
  have HM := Lib.hid hm
  have hbel1 : Below w.heap.size w (w.alloc (.cells #[.pointer (some ⟨b, 0, none⟩), .int .i64 long, .slice none 0 0] 75)) := (Below.refl _ _).alloc (Nat.le_refl _) _
  have hwalk : WalkAt (w.alloc (.cells #[.pointer (some ⟨b, 0, none⟩), .int .i64 long, .slice none 0 0] 75)) w.heap.size b long [] := Exists.intro (.slice none 0 0) ⟨Blk.new _ _ _, World.ownsRow_nil _ _ _ _⟩
  have HB1 := Lib.hid hbel1
  have HW1 := Lib.hid hwalk
  have HM1 := Lib.hid (hm.below hbel1)
  clear hm hbel1 hwalk
  have hb : (first % 4 == 0) = true := by simp; exact h3
  have hb2 : (first % 4 != 0) = false := by simp; exact h3
  obtain ⟨R, hR⟩ : ∃ R, walkRes bs first second long = R := ⟨_, rfl⟩
  rw [hR]
  unfold walkRes at hR
  rw [if_neg (by omega), if_neg (by omega), if_neg (by omega)] at hR
  have HR0 := Lib.hid hR
  clear hR
  have hroom0 : 0 ≤ 64 - first % 64 := by omega
  have hroom1 : 64 - first % 64 ≤ 64 := by omega
  clear h3
  go_enter Tryz.func9, Tryz.ntmps9
  go_wp2_with fail
  clear hb hb2
  generalize w.alloc _ = w1 at *
  generalize 64 - first % 64 = room at *
  cases hf : memFits bs.length first (min room long) with
  | false =>
    have HA := Lib.hid (walker_add_bad w.heap.size b mb bs first room long [] w1 HM1.out HW1.out (by omega) f1 hroom0 hroom1 (by omega) h2 hf)
    unfold memRangeErr at HA
    have hR := HR0.out
    rw [hf, if_pos rfl] at hR
    have HR := Lib.hid hR
    refine HA.out.mono ?_
    rintro e w' ⟨rfl, rfl⟩
    clear HA hf hR HR0
    go_wp2
    go_ret2
    rw [← HR.out]; exact WalkEnd.bad 1 (by omega) HB1.out
  | true =>
    have HA := Lib.hid (walker_add_ok w.heap.size b mb bs first room long [] w1 HM1.out HW1.out hbb hmb (by simp) hroom0 hroom1 (by omega) h2 hf)
    have hR := HR0.out
    rw [hf, if_neg (by simp)] at hR
    have HR1 := Lib.hid hR
    clear HR0 hR
    refine HA.out.mono ?_
    rintro e w2 ⟨rfl, hw2, hbel2⟩
    rw [List.nil_append] at hw2
    have hc1 := hw2.c1
    have hB2 := HB1.out.trans hbel2
    have HB2 := Lib.hid hB2
    have HM2 := Lib.hid (HM.out.below hB2)
    have HW2 := Lib.hid hw2
    clear hw2 hbel2 hB2 HA hf HB1 HW1 HM1
    have hn0 : 0 ≤ min room long := by omega
    have hn1 : min room long ≤ long := by omega
    generalize min room long = n at *
    have hw8 : IntKind.i64.wrap (long - n) = long - n := IntWalk.i64_in _ (by omega)
    by_cases hz : long - n ≤ 0
    · have hR := HR1.out
      rw [if_pos hz] at hR
      have HR := Lib.hid hR
      clear hR HR1
      obtain ⟨v, hv, ho⟩ := HW2.out.out
      have Ho := Lib.hid ho
      clear ho hw8
      go_wp2
      go_ret2
      rw [← HR.out]; exact ⟨HB2.out, fun h => absurd rfl h, fun _ => ⟨_, rfl, Ho.out⟩⟩
    · have hR := HR1.out
      rw [if_neg hz] at hR
      have HR2 := Lib.hid hR
      clear hR HR1
      by_cases h64 : long - n ≤ 64
      · have hR := HR2.out
        rw [if_pos h64] at hR
        have HR3 := Lib.hid hR
        clear hR HR2
        cases hp : pageOk second with
        | false =>
          have HA := Lib.hid (walker_whole_shape w.heap.size second w2 s0 s1 hp)
          unfold shapeErr at HA
          have hR := HR3.out
          rw [hp, if_pos rfl] at hR
          have HR := Lib.hid hR
          clear hp hw8 hR HR3
          go_wp2_with fail
          refine HA.out.mono ?_
          rintro e w' ⟨rfl, rfl⟩
          clear HA
          go_wp2
          go_ret2
          rw [← HR.out]
          exact WalkEnd.bad 2 (by omega) HB2.out
        | true =>
          have hR := HR3.out
          rw [hp, if_neg (by simp)] at hR
          have HR4 := Lib.hid hR
          clear HR3 hR
          have hmin : min 64 (long - n) = long - n := by omega
          cases hf : memFits bs.length second (long - n) with
          | false =>
            have HA := Lib.hid (walker_whole_bad w.heap.size b mb bs second (long - n) _ w2 HM2.out HW2.out s0 s1 hp (by omega) (by omega) (by rw [hmin]; exact hf))
            unfold memRangeErr at HA
            have hR := HR4.out
            rw [hf, if_neg (by simp)] at hR
            have HR := Lib.hid hR
            clear hp hw8 hmin hf hR HR4
            go_wp2_with fail
            refine HA.out.mono ?_
            rintro e w' ⟨rfl, rfl⟩
            clear HA
            go_wp2
            go_ret2
            rw [← HR.out]; exact WalkEnd.bad 1 (by omega) HB2.out
          | true =>
            have hA := walker_whole_ok w.heap.size b mb bs second (long - n) _ w2 HM2.out HW2.out hbb hmb (by simp) s0 s1 hp (by omega) (by omega) (by rw [hmin]; exact hf)
            rw [hmin] at hA
            have HA := Lib.hid hA
            have hR := HR4.out
            rw [hf, if_pos rfl] at hR
            have HR := Lib.hid hR
            clear hp hw8 hmin hf hA hR HR4
            go_wp2_with fail
            refine HA.out.mono ?_
            rintro e w3 ⟨rfl, hw3, hbel3⟩
            obtain ⟨v, hv, ho⟩ := hw3.out
            have Ho := Lib.hid ho
            have HB3 := Lib.hid (HB2.out.trans hbel3)
            clear ho hw3 hbel3 HA hc1
            go_wp2
            go_ret2
            rw [← HR.out]; exact ⟨HB3.out, fun h => absurd rfl h, fun _ => ⟨_, rfl, Ho.out⟩⟩
      · have hR := HR2.out
        rw [if_neg h64] at hR
        by_cases hal : second < 0 ∨ second % 8 ≠ 0
        · rw [if_pos hal] at hR
          have HR := Lib.hid hR
          have HA := Lib.hid (walker_list_shape w.heap.size second w2 s0 s1 hal)
          clear hR HR2 hal hw8
          unfold shapeErr at HA
          go_wp2_with fail
          refine HA.out.mono ?_
          rintro e w' ⟨rfl, rfl⟩
          clear HA
          go_wp2
          go_ret2
          rw [← HR.out]
          exact WalkEnd.bad 2 (by omega) HB2.out
        · rw [if_neg hal] at hR
          have HA := Lib.hid (walker_list_in w.heap.size b mb bs second (long - n) _ w2 HM2.out HW2.out hbb hmb (by simp) s1 (by omega) (by omega) (by omega) (by omega))
          rw [hR] at HA
          clear hR HR2 hw8 hal
          obtain ⟨k, segs⟩ := R
          go_wp2_with fail
          refine HA.out.mono ?_
          rintro e w3 ⟨rfl, hw3, hbel3⟩
          simp only [] at hw3
          have HB3 := Lib.hid (HB2.out.trans hbel3)
          by_cases hk : k = 0
          · subst hk
            obtain ⟨v, hv, ho⟩ := (hw3 rfl).out
            have Ho := Lib.hid ho
            rw [show errOf (0, segs).1 = .nilIface from rfl]
            clear ho hw3 hbel3 HA hc1
            go_wp2
            go_ret2
            exact ⟨HB3.out, fun h => absurd rfl h, fun _ => ⟨_, rfl, Ho.out⟩⟩
          · rw [show errOf (k, segs).1 = .iface 54 (.int .i64 k) from if_neg hk]
            have HK := Lib.hid hk
            clear hw3 hbel3 HA hc1 hk
            go_wp2
            go_ret2
            exact ⟨HB3.out, fun _ => rfl, fun h => absurd h HK.out⟩
end Go.Proofs.YtdkpbobglogmoaaGreat
namespace Go.Proofs.YtdkpbobglogmoaaGreat
def chainFrom : Int → List Int → List Int
  | _, [] => []
  | _, [x] => [x]
  | put, x :: y :: t => if put % 64 = 56 then (put + 8) :: x :: chainFrom (put + 16) (y :: t) else x :: chainFrom (put + 8) (y :: t)
def segsOf : List Int → Int → List (Int × Int)
  | [], _ => []
  | x :: t, left => (x, min 64 left) :: segsOf t (left - min 64 left)
def NumsAt (bs : List Int) (at_ : Int) (nums : List Int) : Prop := ∀ i, i < nums.length → numRd bs (at_ + 8 * i) = some (nums.getD i 0)
def fitAll (L : Nat) : List Int → Int → Prop
  | [], _ => True
  | x :: t, left => memFits L x (min 64 left) = true ∧ fitAll L t (left - min 64 left)
theorem NumsAt.tail {bs : List Int} {at_ x : Int} {t : List Int} (h : NumsAt bs at_ (x :: t)) : numRd bs at_ = some x ∧ NumsAt bs (at_ + 8) t := by
  refine ⟨by simpa using h 0 (by simp), fun i hi => ?_⟩
  have := h (i + 1) (by simpa using hi)
  rw [show at_ + 8 * ((i + 1 : Nat) : Int) = at_ + 8 + 8 * (i : Int) by omega] at this
  simpa using this
theorem listRun_nil (bs : List Int) (f : Nat) (at_ : Int) (segs : List (Int × Int)) : listRun bs f at_ 0 segs = (0, segs) := by
  cases f <;> simp [listRun]
theorem listRun_page (bs : List Int) (f : Nat) (at_ left x : Int) (segs : List (Int × Int)) (hl : 0 < left) (hn : numRd bs at_ = some x) (hp : pageOk x = true) (hm : ¬ (at_ % 64 = 56 ∧ 64 < left)) (hf : memFits bs.length x (min 64 left) = true) :
    listRun bs (f + 1) at_ left segs = listRun bs f (at_ + 8) (left - min 64 left) (segs ++ [(x, min 64 left)]) := by
  rw [listRun]
  rw [if_neg (by omega), hn]
  simp only [hp, hf, if_true]
  rw [if_neg (by simp), if_neg hm]
theorem listRun_link (bs : List Int) (f : Nat) (at_ left x : Int) (segs : List (Int × Int)) (hn : numRd bs at_ = some x) (hp : pageOk x = true) (hm : at_ % 64 = 56 ∧ 64 < left) :
    listRun bs (f + 1) at_ left segs = listRun bs f x left segs := by
  rw [listRun]
  rw [if_neg (by omega), hn]
  simp only [hp]
  rw [if_neg (by simp), if_pos hm]
theorem listRun_chain (bs : List Int) : ∀ (R : List Int) (at_ left : Int) (f : Nat) (segs : List (Int × Int)), 0 ≤ at_ → at_ % 8 = 0 → 0 ≤ left → (R.length : Int) = (left + 63) / 64 → (∀ x ∈ R, pageOk x = true) → fitAll bs.length R left →
    NumsAt bs at_ (chainFrom at_ R) → listMost at_ left ≤ f → listRun bs f at_ left segs = (0, segs ++ segsOf R left) := by
  intro R
  induction R with
  | nil =>
    intro at_ left f segs h0 h8 hl hlen _ _ _ _
    simp only [List.length_nil] at hlen
    obtain rfl : left = 0 := by omega
    rw [listRun_nil]; simp [segsOf]
  | cons x t ih =>
    intro at_ left f segs h0 h8 hl hlen hp hfit hnum hf
    simp only [List.length_cons] at hlen
    have hl0 : 0 < left := by omega
    have hpx := hp x (List.mem_cons_self ..)
    have hpt : ∀ y ∈ t, pageOk y = true := fun y hy => hp y (List.mem_cons_of_mem _ hy)
    obtain ⟨hf1, hf2⟩ := hfit
    unfold listMost at hf
    cases t with
    | nil =>
      simp only [List.length_nil] at hlen
      have hle : left ≤ 64 := by omega
      have hmin : min 64 left = left := by omega
      obtain ⟨g, rfl⟩ : ∃ g, f = g + 1 := ⟨f - 1, by omega⟩
      have hn := (NumsAt.tail (show NumsAt bs at_ (x :: []) from hnum)).1
      rw [listRun_page bs g at_ left x segs hl0 hn hpx (by omega) hf1, hmin]
      simp only [Int.sub_self, listRun_nil, segsOf, hmin]
    | cons y t =>
      simp only [List.length_cons] at hlen
      have hgt : 64 < left := by omega
      have hmin : min 64 left = 64 := by omega
      by_cases h56 : at_ % 64 = 56
      · rw [if_pos h56] at hf
        obtain ⟨g, rfl⟩ : ∃ g, f = g + 1 + 1 := ⟨f - 2, by omega⟩
        have hnum' : NumsAt bs at_ ((at_ + 8) :: x :: chainFrom (at_ + 16) (y :: t)) := by
          have e : chainFrom at_ (x :: y :: t) = (at_ + 8) :: x :: chainFrom (at_ + 16) (y :: t) := by simp [chainFrom, h56]
          rw [e] at hnum; exact hnum
        obtain ⟨n1, hnum2⟩ := hnum'.tail
        obtain ⟨n2, hnum3⟩ := hnum2.tail
        rw [show at_ + 8 + 8 = at_ + 16 by omega] at hnum3
        rw [listRun_link bs (g + 1) at_ left (at_ + 8) segs n1 ((pageOk_iff _).2 (by omega)) ⟨h56, hgt⟩]
        rw [listRun_page bs g (at_ + 8) left x segs hl0 n2 hpx (by omega) hf1]
        rw [show at_ + 8 + 8 = at_ + 16 by omega]
        rw [ih (at_ + 16) (left - min 64 left) g _ (by omega) (by omega) (by omega) (by simp only [List.length_cons]; omega) hpt hf2 hnum3 (by
          unfold listMost
          rw [if_neg (by omega)]
          omega)]
        simp [segsOf]
      · rw [if_neg h56] at hf
        obtain ⟨g, rfl⟩ : ∃ g, f = g + 1 := ⟨f - 1, by omega⟩
        have hnum' : NumsAt bs at_ (x :: chainFrom (at_ + 8) (y :: t)) := by
          have e : chainFrom at_ (x :: y :: t) = x :: chainFrom (at_ + 8) (y :: t) := by simp [chainFrom, h56]
          rw [e] at hnum; exact hnum
        obtain ⟨n1, hnum2⟩ := hnum'.tail
        rw [listRun_page bs g at_ left x segs hl0 n1 hpx (by omega) hf1]
        rw [ih (at_ + 8) (left - min 64 left) g _ (by omega) (by omega) (by omega) (by simp only [List.length_cons]; omega) hpt hf2 hnum2 (by
          unfold listMost
          split <;> omega)]
        simp [segsOf]
def digs (nums : List Int) : List Int := nums.flatMap (leDig 8)
theorem digs_length (nums : List Int) : (digs nums).length = 8 * nums.length := by
  induction nums with
  | nil => rfl
  | cons x t ih =>
    have e : digs (x :: t) = leDig 8 x ++ digs t := rfl
    rw [e, List.length_append, leDig_length, ih]; simp; omega
theorem digs_part (nums : List Int) (i : Nat) (h : i < nums.length) : ((digs nums).drop (8 * i)).take 8 = leDig 8 (nums.getD i 0) := by
  induction nums generalizing i with
  | nil => simp at h
  | cons x t ih =>
    have e : digs (x :: t) = leDig 8 x ++ digs t := rfl
    rw [e]
    cases i with
    | zero =>
      simp only [Nat.mul_zero, List.drop_zero]
      rw [List.take_append_of_le_length (by rw [leDig_length]; omega), List.take_of_length_le (by rw [leDig_length]; omega)]
      rfl
    | succ i =>
      have h' : i < t.length := by simpa using h
      have hd : (leDig 8 x ++ digs t).drop (8 * (i + 1)) = (digs t).drop (8 * i) := by
        rw [List.drop_append, leDig_length, List.drop_of_length_le (by rw [leDig_length]; omega)]
        simp only [List.nil_append]
        congr 1
      rw [hd, ih i h']
      simp
theorem splice_part (bs cs : List Int) (p i n : Nat) (hp : p + cs.length ≤ bs.length) (hi : i + n ≤ cs.length) : ((splice bs p cs).drop (p + i)).take n = (cs.drop i).take n := by
  unfold splice
  have e : (bs.take p).length = p := by simp; omega
  rw [List.drop_append, e, show p + i - p = i by omega, List.drop_of_length_le (by omega), List.nil_append]
  rw [List.drop_append_of_le_length (by omega), List.take_append_of_le_length (by simp; omega)]
theorem splice_more (bs cs ds : List Int) (p : Nat) (hp : p + cs.length + ds.length ≤ bs.length) : splice (splice bs p cs) (p + cs.length) ds = splice bs p (cs ++ ds) := by
  unfold splice
  have e : (bs.take p).length = p := by simp; omega
  rw [← List.append_assoc (bs.take p) cs, List.take_append_of_le_length (by simp; omega), List.take_of_length_le (by simp; omega)]
  have e2 : (bs.take p ++ cs).length = p + cs.length := by simp; omega
  rw [List.drop_append, e2, List.drop_of_length_le (by omega), List.nil_append, List.drop_drop]
  simp only [List.length_append, List.append_assoc]
  congr 4
  omega
theorem nums_written (bs nums : List Int) (p : Nat) (hfit : p + 8 * nums.length ≤ bs.length) (hr : ∀ x ∈ nums, 0 ≤ x ∧ x ≤ 4611686018427387904) : NumsAt (splice bs p (digs nums)) (p : Int) nums := by
  intro i hi
  have hl := digs_length nums
  have hsl : (splice bs p (digs nums)).length = bs.length := length_splice _ _ _ (by omega)
  have hx := hr (nums.getD i 0) (by simp [List.getD, hi])
  have e : ((splice bs p (digs nums)).drop ((p : Int) + 8 * (i : Int)).toNat).take 8 = leDig 8 (nums.getD i 0) := by
    rw [show ((p : Int) + 8 * (i : Int)).toNat = p + 8 * i by omega, splice_part bs (digs nums) p (8 * i) 8 (by omega) (by omega), digs_part nums i hi]
  have hd : leNum (leDig 8 (nums.getD i 0)) = nums.getD i 0 := leNum_dig 8 _ hx.1 (by have : (256 : Int) ^ 8 = 18446744073709551616 := rfl; omega)
  unfold numRd
  rw [e, hd, hsl]
  have h1 : memFits bs.length ((p : Int) + 8 * (i : Int)) 8 = true := (memFits_iff _ _ _).2 (by omega)
  have h2 : numOk (leDig 8 (nums.getD i 0)) = true := by unfold numOk; rw [hd]; exact decide_eq_true hx.2
  rw [h1, h2]; rfl
structure Built where
  u : Int
  v : Int
  bs : List Int
  e : Int
def listNums (at_ : Int) (pages : List Int) : List Int := if 2 < pages.length then chainFrom at_ pages.tail else []
def fitPages (L : Nat) (pages : List Int) (offset long : Int) : Bool :=
  match pages with
  | [] => true
  | x :: t => memFits L (x + offset) (min (64 - offset) long) && go t (long - min (64 - offset) long)
  where go : List Int → Int → Bool
  | [], _ => true
  | x :: t, left => memFits L x (min 64 left) && go t (left - min 64 left)
theorem fitAll_go (L : Nat) : ∀ (t : List Int) (left : Int), fitPages.go L t left = true → fitAll L t left := by
  intro t
  induction t with
  | nil => intro left _; trivial
  | cons x t ih => intro left h; rw [fitPages.go, Bool.and_eq_true] at h; exact ⟨h.1, ih _ h.2⟩
def buildRes (bs : List Int) (at_ : Int) (pages : List Int) (offset long : Int) : Built :=
  if long < 1 ∨ 2048 < long ∨ offset < 0 ∨ 60 < offset then ⟨0, 0, bs, 1⟩ else
  if offset % 4 ≠ 0 ∨ (pages.length : Int) ≠ (offset + long + 63) / 64 then ⟨0, 0, bs, 2⟩ else
  if pages.all pageOk = false then ⟨0, 0, bs, 2⟩ else
  if 2 < pages.length ∧ pageOk at_ = false then ⟨0, 0, bs, 2⟩ else
  if fitPages bs.length pages offset long = false then ⟨0, 0, bs, 1⟩ else
  if 2 < pages.length ∧ memFits bs.length at_ (8 * (listNums at_ pages).length) = false then ⟨0, 0, bs, 1⟩ else
  ⟨pages.getD 0 0 + offset, if pages.length = 1 then 0 else if pages.length = 2 then pages.getD 1 0 else at_, splice bs at_.toNat (digs (listNums at_ pages)), 0⟩
theorem chain_small (L : Nat) (hL : L ≤ 16384) : ∀ (n : Nat) (pages : List Int), pages.length ≤ n → ∀ at_ : Int, 0 ≤ at_ → at_ + 8 * (chainFrom at_ pages).length ≤ L → (∀ x ∈ pages, 0 ≤ x ∧ x ≤ L) → ∀ y ∈ chainFrom at_ pages, 0 ≤ y ∧ y ≤ 4611686018427387904 := by
  intro n
  induction n with
  | zero => intro pages hn at_ _ _ _; cases pages with
    | nil => simp [chainFrom]
    | cons => simp at hn
  | succ n ih =>
    intro pages hn at_ h0 hfit hp y hy
    match pages, hn, hfit, hp, hy with
    | [], _, _, _, hy => simp [chainFrom] at hy
    | [x], _, _, hp, hy =>
      simp [chainFrom] at hy
      have := hp x (by simp); omega
    | x :: z :: t, hn, hfit, hp, hy =>
      have hx := hp x (by simp)
      rw [chainFrom] at hfit hy
      split at hy
      · next h56 =>
        rw [if_pos h56] at hfit
        simp only [List.length_cons] at hfit hn
        simp only [List.mem_cons] at hy
        rcases hy with rfl | rfl | hy
        · omega
        · omega
        · exact ih (z :: t) (by simp only [List.length_cons]; omega) (at_ + 16) (by omega) (by omega) (fun q hq => hp q (List.mem_cons_of_mem _ hq)) y hy
      · next h56 =>
        rw [if_neg h56] at hfit
        simp only [List.length_cons] at hfit hn
        simp only [List.mem_cons] at hy
        rcases hy with rfl | hy
        · omega
        · exact ih (z :: t) (by simp only [List.length_cons]; omega) (at_ + 8) (by omega) (by omega) (fun q hq => hp q (List.mem_cons_of_mem _ hq)) y hy
theorem fitAll_mem (L : Nat) : ∀ (t : List Int) (left : Int), fitAll L t left → ∀ x ∈ t, 0 ≤ x ∧ x ≤ L := by
  intro t
  induction t with
  | nil => intro _ _ x hx; cases hx
  | cons a t ih =>
    intro left h x hx
    rcases List.mem_cons.1 hx with rfl | hx
    · have := (memFits_iff _ _ _).1 h.1; omega
    · exact ih _ h.2 x hx
theorem walk_built (bs : List Int) (hL : bs.length ≤ 16384) (at_ : Int) (pages : List Int) (offset long : Int) (h : (buildRes bs at_ pages offset long).e = 0) :
    1 ≤ long ∧ long ≤ 2048 ∧ 0 ≤ offset ∧ offset ≤ 60 ∧ (buildRes bs at_ pages offset long).bs.length = bs.length ∧
    ∃ x t, pages = x :: t ∧ fitPages bs.length pages offset long = true ∧ walkRes (buildRes bs at_ pages offset long).bs (buildRes bs at_ pages offset long).u (buildRes bs at_ pages offset long).v long = (0, (x + offset, min (64 - offset) long) :: segsOf t (long - min (64 - offset) long)) := by
  unfold buildRes at h ⊢
  split at h; · cases h
  split at h; · cases h
  split at h; · cases h
  split at h; · cases h
  split at h; · cases h
  split at h; · cases h
  next h1 h2 h3 h4 h5 h6 =>
  rw [if_neg h1, if_neg h2, if_neg h3, if_neg h4, if_neg h5, if_neg h6]
  have hlen : (pages.length : Int) = (offset + long + 63) / 64 := by omega
  have hall : ∀ x ∈ pages, pageOk x = true := by simpa using h3
  have hfit : fitPages bs.length pages offset long = true := by simpa using h5
  obtain ⟨x, t, rfl⟩ : ∃ x t, pages = x :: t := by
    cases pages with
    | nil => simp at hlen; omega
    | cons x t => exact ⟨x, t, rfl⟩
  have hf2 := hfit
  rw [fitPages, Bool.and_eq_true] at hf2
  have hfa := fitAll_go _ _ _ hf2.2
  have hx := (pageOk_iff x).1 (hall x (List.mem_cons_self ..))
  simp only [List.length_cons] at hlen h4 h6
  have hf1 := hf2.1
  have hmod : (x + offset) % 64 = offset := by omega
  have hspl : (splice bs at_.toNat (digs (listNums at_ (x :: t)))).length = bs.length := by
    by_cases h2' : 2 < t.length + 1
    · have := (memFits_iff _ _ _).1 (by simpa using fun q => h6 ⟨h2', q⟩ : memFits bs.length at_ (8 * (listNums at_ (x :: t)).length) = true)
      refine length_splice _ _ _ ?_
      rw [digs_length]; omega
    · have e : listNums at_ (x :: t) = [] := by unfold listNums; rw [if_neg (by simpa using h2')]
      rw [e]; simp [splice, digs]
  refine ⟨by omega, by omega, by omega, by omega, hspl, x, t, rfl, hfit, ?_⟩
  unfold walkRes
  simp only [List.getD_cons_zero, hmod]
  rw [if_neg (by omega), if_neg (by omega), if_neg (by omega), hspl, if_neg (by rw [hf1]; simp)]
  generalize hn : min (64 - offset) long = n at *
  by_cases hl1 : t.length = 0
  · obtain rfl : t = [] := List.eq_nil_of_length_eq_zero hl1
    simp only [List.length_nil] at hlen
    rw [if_pos (by omega)]
    simp [segsOf]
  · rw [if_neg (by omega)]
    by_cases hl2 : t.length = 1
    · obtain ⟨y, rfl⟩ : ∃ y, t = [y] := by
        match t, hl2 with
        | [y], _ => exact ⟨y, rfl⟩
      simp only [List.length_cons, List.length_nil] at hlen
      rw [if_pos (by omega)]
      have hy := hall y (by simp)
      have hfy := hfa.1
      rw [show min 64 (long - n) = long - n by omega] at hfy
      simp [hy, hfy, segsOf]
      omega
    · rw [if_neg (by omega)]
      have h2' : 2 < t.length + 1 := by omega
      have hat := (pageOk_iff at_).1 (by simpa using fun q => h4 ⟨h2', q⟩)
      have hnums : listNums at_ (x :: t) = chainFrom at_ t := by unfold listNums; rw [if_pos (by simpa using h2')]; rfl
      have hfn := (memFits_iff _ _ _).1 (by simpa using fun q => h6 ⟨h2', q⟩ : memFits bs.length at_ (8 * (listNums at_ (x :: t)).length) = true)
      rw [hnums] at hfn hspl ⊢
      have hv : (if (x :: t).length = 1 then (0 : Int) else if (x :: t).length = 2 then (x :: t).getD 1 0 else at_) = at_ := by
        rw [if_neg (by simpa using hl1), if_neg (by simpa using hl2)]
      rw [hv, if_neg (by omega)]
      obtain ⟨p, rfl⟩ := Int.eq_ofNat_of_zero_le (show 0 ≤ at_ by omega)
      simp only [Int.toNat_natCast] at hspl ⊢
      have hN := nums_written bs (chainFrom (p : Int) t) p (by omega) (chain_small bs.length hL t.length t (Nat.le_refl _) p (by omega) (by omega) (fitAll_mem _ _ _ hfa))
      rw [listRun_chain _ t p (long - n) _ _ (by omega) (by omega) (by omega) (by omega) (fun y hy => hall y (List.mem_cons_of_mem _ hy)) (by rw [hspl]; exact hfa) hN (Nat.le_refl _)]
      simp
end Go.Proofs.YtdkpbobglogmoaaGreat
