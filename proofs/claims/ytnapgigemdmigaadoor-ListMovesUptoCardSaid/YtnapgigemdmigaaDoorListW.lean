/- Contracts of list's walker: whole, list. -/
import Derived.Test.YtnapgigemdmigaaDoorList
import Derived.Test.YtnapgigemdmigaaDoorMemN
namespace Go.Proofs.YtnapgigemdmigaaDoor
open Go.RowKit Go.WideShapes
set_option linter.unusedVariables false

/-- an error by its number -/
def errOf (k : Int) : Value := if k = 0 then .nilIface else .iface 29 (.int .i64 k)

theorem mem_number_any (b mb : Nat) (bs : List Int) (p : Int) (w : World) (h : MemAt w b mb bs) (hp0 : -9223372036854775808 ≤ p) (hp1 : p ≤ 9223372036854775807) :
    Calls Tryd.prog 33 #[.pointer (some ⟨b, 0, none⟩), .int .i64 p] w fun e w' => e = .returned (match numRd bs p with | none => .tuple #[.int .i64 0, memRangeErr] | some x => .tuple #[.int .i64 x, .nilIface]) ∧ w = w' := by
  by_cases hf : memFits bs.length p 8 = true
  · have hf' := (memFits_iff _ _ _).1 hf
    obtain ⟨q, rfl⟩ := Int.eq_ofNat_of_zero_le hf'.1
    refine (mem_number_core b mb bs q w h (by omega) _ rfl).mono ?_
    rintro e w' ⟨he, rfl⟩
    refine ⟨?_, rfl⟩
    unfold NumRes at he
    rw [he]
    unfold numRd numOk
    rw [hf]
    simp only [Int.toNat_natCast, Bool.true_and, decide_eq_true_eq]
    split <;> rfl
  · have hf' : ¬ (0 ≤ p ∧ 0 ≤ (8 : Int) ∧ (8 : Int) ≤ bs.length ∧ p ≤ bs.length - 8) := fun q => hf ((memFits_iff _ _ _).2 q)
    refine (mem_number_bad b mb bs p w h hp0 hp1 (by omega)).mono ?_
    rintro e w' ⟨rfl, rfl⟩
    refine ⟨?_, rfl⟩
    unfold numRd
    rw [show memFits bs.length p 8 = false by simpa using hf]
    rfl

set_option maxHeartbeats 2000000 in
theorem walker_whole_shape (wb : Nat) (x : Int) (w : World) (x0 : -9223372036854775808 ≤ x) (x1 : x ≤ 9223372036854775807) (hp : pageOk x = false) :
    Calls Tryd.prog 45 #[.pointer (some ⟨wb, 0, none⟩), .int .i64 x] w fun e w' => e = .returned shapeErr ∧ w = w' := by
  have HA := Lib.hid (aligned_any x 64 w x0 x1 (by omega) (by omega))
  rw [show decide (0 ≤ x ∧ x % 64 = 0) = false from hp] at HA
  clear hp
  go_enter Tryd.func45, Tryd.ntmps45
  go_wp2_with fail
  refine HA.out.mono ?_
  rintro e w' ⟨rfl, rfl⟩
  go_wp2
  go_ret
  exact ⟨rfl, rfl⟩
set_option maxHeartbeats 2000000 in
theorem walker_whole_bad (wb b mb : Nat) (bs : List Int) (x left : Int) (segs : List (Int × Int)) (w : World) (hm : MemAt w b mb bs) (hw : WalkAt w wb b left segs)
    (x0 : -9223372036854775808 ≤ x) (x1 : x ≤ 9223372036854775807) (hp : pageOk x = true) (hl0 : 0 ≤ left) (hl1 : left ≤ 2048) (hf : memFits bs.length x (min 64 left) = false) :
    Calls Tryd.prog 45 #[.pointer (some ⟨wb, 0, none⟩), .int .i64 x] w fun e w' => e = .returned memRangeErr ∧ w = w' := by
  have HA := Lib.hid (aligned_any x 64 w x0 x1 (by omega) (by omega))
  rw [show decide (0 ≤ x ∧ x % 64 = 0) = true from hp] at HA
  have HW := Lib.hid (walker_add_bad wb b mb bs x 64 left segs w hm hw x0 x1 (by omega) (by omega) hl0 hl1 hf)
  clear hp hm hw hf
  go_enter Tryd.func45, Tryd.ntmps45
  go_wp2_with fail
  refine HA.out.mono ?_
  rintro e w' ⟨rfl, rfl⟩
  go_wp2_with fail
  refine HW.out.mono ?_
  rintro e w' ⟨rfl, rfl⟩
  unfold memRangeErr
  go_wp2
  go_ret
  exact ⟨rfl, rfl⟩
set_option maxHeartbeats 2000000 in
theorem walker_whole_ok (wb b mb : Nat) (bs : List Int) (x left : Int) (segs : List (Int × Int)) (w : World) (hm : MemAt w b mb bs) (hw : WalkAt w wb b left segs) (hb1 : b < wb) (hb2 : mb < wb) (hsl : segs.length ≤ 4096)
    (x0 : -9223372036854775808 ≤ x) (x1 : x ≤ 9223372036854775807) (hp : pageOk x = true) (hl0 : 0 ≤ left) (hl1 : left ≤ 2048) (hf : memFits bs.length x (min 64 left) = true) :
    Calls Tryd.prog 45 #[.pointer (some ⟨wb, 0, none⟩), .int .i64 x] w fun e w' => e = .returned .nilIface ∧ WalkAt w' wb b (left - min 64 left) (segs ++ [(x, min 64 left)]) ∧ Below wb w w' := by
  have HA := Lib.hid (aligned_any x 64 w x0 x1 (by omega) (by omega))
  rw [show decide (0 ≤ x ∧ x % 64 = 0) = true from hp] at HA
  have HW := Lib.hid (walker_add_ok wb b mb bs x 64 left segs w hm hw hb1 hb2 hsl (by omega) (by omega) hl0 hl1 hf)
  clear hp hm hw hf
  go_enter Tryd.func45, Tryd.ntmps45
  go_wp2_with fail
  refine HA.out.mono ?_
  rintro e w' ⟨rfl, rfl⟩
  go_wp2_with fail
  refine HW.out.mono ?_
  rintro e w' ⟨rfl, h1, h2⟩
  have H1 := Lib.hid h1
  have H2 := Lib.hid h2
  clear h1 h2 HW HA
  go_wp2
  go_ret
  exact ⟨rfl, H1.out, H2.out⟩

/-- how the walker's list ends -/
def ListEnd (R : Int × List (Int × Int)) (wb b : Nat) (w : World) (e : Ending) (w' : World) : Prop :=
  e = .returned (errOf R.1) ∧ (R.1 = 0 → WalkAt w' wb b 0 R.2) ∧ Below wb w w'
def leftOf (w : World) (wb : Nat) : Int := match w.cell? ⟨wb, 1, none⟩ with | some (.int _ n) => n | _ => 0
theorem WalkAt.left {w : World} {wb b : Nat} {left : Int} {segs : List (Int × Int)} (h : WalkAt w wb b left segs) : leftOf w wb = left := by
  obtain ⟨v, hb, _⟩ := h
  have := hb.cell 1
  simp only [List.getElem?_toArray, List.getElem?_cons_zero, List.getElem?_cons_succ] at this
  unfold leftOf; rw [this]
theorem WalkAt.c0 {w : World} {wb b : Nat} {left : Int} {segs : List (Int × Int)} (h : WalkAt w wb b left segs) : w.cell? ⟨wb, 0, none⟩ = some (.pointer (some ⟨b, 0, none⟩)) := by
  obtain ⟨v, hb, _⟩ := h
  have := hb.cell 0
  simpa using this
theorem WalkAt.c1 {w : World} {wb b : Nat} {left : Int} {segs : List (Int × Int)} (h : WalkAt w wb b left segs) : w.cell? ⟨wb, 1, none⟩ = some (.int .i64 left) := by
  obtain ⟨v, hb, _⟩ := h
  have := hb.cell 1
  simpa using this

structure ListInv (bs : List Int) (R : Int × List (Int × Int)) (wb b : Nat) (w0 : World) (p left : Int) (segs : List (Int × Int)) (f : Nat) (wr : World) : Prop where
  p0 : 0 ≤ p
  p1 : p ≤ 9223372036854775807
  p8 : p % 8 = 0
  l0 : 0 ≤ left
  l1 : left ≤ 2048
  sl : (segs.length : Int) + left ≤ 2060
  walk : WalkAt wr wb b left segs
  bel : Below wb w0 wr
  run : listRun bs f p left segs = R
  most : listMost p left ≤ f

theorem numRd_bd {bs : List Int} {p x : Int} (hL : bs.length ≤ 16384) (h : numRd bs p = some x) (hb : ∀ x ∈ bs, 0 ≤ x ∧ x ≤ 255) : 0 ≤ p ∧ p + 8 ≤ 16384 ∧ 0 ≤ x ∧ x ≤ 4611686018427387904 := by
  unfold numRd at h
  split at h
  · next hc =>
    rw [Bool.and_eq_true] at hc
    have h1 := (memFits_iff _ _ _).1 hc.1
    have h2 : leNum ((bs.drop p.toNat).take 8) ≤ 4611686018427387904 := of_decide_eq_true hc.2
    cases h
    have h3 := (leNum_bd ((bs.drop p.toNat).take 8) (fun x hx => hb x (List.mem_of_mem_drop (List.mem_of_mem_take hx)))).1
    exact ⟨by omega, by omega, h3, h2⟩
  · cases h
theorem numRd_bound {bs : List Int} {p x : Int} (h : numRd bs p = some x) (hL : bs.length ≤ 16384) : 0 ≤ p ∧ p + 8 ≤ 16384 := by
  unfold numRd at h
  split at h
  · next hc =>
    rw [Bool.and_eq_true] at hc
    have h1 := (memFits_iff _ _ _).1 hc.1
    exact ⟨by omega, by omega⟩
  · cases h

set_option maxRecDepth 100000 in
set_option maxHeartbeats 8000000 in
theorem walker_list_in (wb b mb : Nat) (bs : List Int) (p left : Int) (segs : List (Int × Int)) (w : World) (hm : MemAt w b mb bs) (hw : WalkAt w wb b left segs) (hb1 : b < wb) (hb2 : mb < wb) (hsl : segs.length ≤ 10)
    (x1 : p ≤ 9223372036854775807) (hl0 : 0 ≤ left) (hl1 : left ≤ 2048) (hp0 : 0 ≤ p) (hp8 : p % 8 = 0) :
    Calls Tryd.prog 44 #[.pointer (some ⟨wb, 0, none⟩), .int .i64 p] w (ListEnd (listRun bs (listMost p left) p left segs) wb b w) := by
  have hmost := hm.most
  have HM := Lib.hid hm
  generalize hR : listRun bs (listMost p left) p left segs = R
  have HI : Hid (ListInv bs R wb b w p left segs (listMost p left) w) := ⟨hp0, x1, hp8, hl0, hl1, by omega, hw, Below.refl _ _, hR, Nat.le_refl _⟩
  have HA := Lib.hid (aligned_any p 8 w (by omega) x1 (by omega) (by omega))
  rw [show decide (0 ≤ p ∧ p % 8 = 0) = true from decide_eq_true ⟨hp0, hp8⟩] at HA
  clear hm hw hR
  go_enter Tryd.func44, Tryd.ntmps44
  go_wp2_with fail
  refine HA.out.mono ?_
  rintro e w' ⟨rfl, rfl⟩
  clear HA
  go_wp2_with fail
  go_loopw [1] (fun v wr => ∃ (q l : Int) (sg : List (Int × Int)) (f : Nat), v = .int .i64 q ∧ ListInv bs R wb b w q l sg f wr) (fun v wr => listMost (intOf v) (leftOf wr wb))
  case atStart => exact ⟨p, left, segs, _, rfl, HI.out⟩
  case round =>
    clear HI hp8 hp0 x1 hl0 hl1 hsl
    obtain ⟨p, left, segs, f, rfl, hi⟩ := hrel
    have c0 := hi.walk.c0
    have c1 := hi.walk.c1
    have hl0 := hi.l0
    have hl1 := hi.l1
    have hp0 := hi.p0
    have hp1 := hi.p1
    have hp8 := hi.p8
    have HIv := Lib.hid hi
    have HM1 := Lib.hid (HM.out.under hi.bel hb1 hb2)
    have HLf := Lib.hid hi.walk.left
    clear hi
    by_cases hz : left ≤ 0
    · obtain rfl : left = 0 := by omega
      have HR := HIv.out.run
      rw [show listRun bs f p 0 segs = (0, segs) by cases f <;> simp [listRun]] at HR
      have HR' := Lib.hid HR
      clear HR
      go_wp2
      go_ret
      refine ⟨by rw [← HR'.out]; rfl, fun _ => by rw [← HR'.out]; exact HIv.out.walk, HIv.out.bel⟩
    · have hz' : 0 < left := by omega
      obtain ⟨f, rfl⟩ : ∃ g, f = g + 1 := ⟨f - 1, by
        have := HIv.out.most
        unfold listMost at this
        omega⟩
      have HN := Lib.hid (mem_number_any b mb bs p wr HM1.out (by omega) hp1)
      cases hx : numRd bs p with
      | none =>
        rw [hx] at HN
        have HR := HIv.out.run
        rw [listRun, if_neg (by omega), hx] at HR
        have HR' := Lib.hid HR
        clear HR hx
        unfold memRangeErr at HN
        go_wp2_with fail
        refine HN.out.mono ?_
        rintro e w' ⟨rfl, rfl⟩
        clear HN c0 c1
        go_wp2
        go_ret
        exact ⟨by rw [← HR'.out]; rfl, (fun q => by rw [← HR'.out] at q; cases q), HIv.out.bel⟩
      | some x =>
        rw [hx] at HN
        have hbd := numRd_bd hmost hx HM1.out.byte
        obtain ⟨_, hp16, hx0, hx1⟩ := hbd
        have hw8 : IntKind.i64.wrap (p + 8) = p + 8 := IntWalk.i64_in _ (by omega)
        have HR := HIv.out.run
        rw [listRun, if_neg (by omega), hx] at HR
        simp only [] at HR
        have HX := Lib.hid hx
        clear hx
        by_cases hm56 : p % 64 = 56 ∧ 64 < left
        · have h56 : ((p + 8) % 64 == 0) = true := by have := hm56.1; simp; omega
          have h64 : 64 < left := hm56.2
          have HAl := Lib.hid (aligned_any x 64 wr (by omega) (by omega) (by omega) (by omega))
          cases hpg : pageOk x with
          | false =>
            rw [show decide (0 ≤ x ∧ x % 64 = 0) = false from hpg] at HAl
            rw [hpg, if_pos rfl] at HR
            have HR' := Lib.hid HR
            clear HR hpg hm56
            go_wp2_with fail
            refine HN.out.mono ?_
            rintro e w' ⟨rfl, rfl⟩
            clear HN
            go_wp2_with fail
            refine HAl.out.mono ?_
            rintro e w' ⟨rfl, rfl⟩
            clear HAl c0 c1
            go_wp2
            go_ret
            exact ⟨by rw [← HR'.out]; rfl, (fun q => by rw [← HR'.out] at q; cases q), HIv.out.bel⟩
          | true =>
            rw [show decide (0 ≤ x ∧ x % 64 = 0) = true from hpg] at HAl
            have hpg' := (pageOk_iff x).1 hpg
            rw [hpg, if_neg (by simp), if_pos hm56] at HR
            have HR' := Lib.hid HR
            have hp56 := hm56.1
            clear HR hpg hm56
            go_wp2_with fail
            refine HN.out.mono ?_
            rintro e w' ⟨rfl, rfl⟩
            clear HN
            go_wp2_with fail
            refine HAl.out.mono ?_
            rintro e w' ⟨rfl, rfl⟩
            clear HAl c0 c1
            go_wp2
            go_roundw
            case rel =>
              refine ⟨x, left, segs, f, rfl, hx0, by omega, by omega, hl0, hl1, HIv.out.sl, HIv.out.walk, HIv.out.bel, HR'.out, ?_⟩
              have := HIv.out.most
              unfold listMost at this ⊢
              rw [if_pos hp56] at this
              rw [if_neg (by omega)]
              omega
            case measure =>
              simp only [intOf, HLf.out]
              unfold listMost
              rw [if_pos hp56, if_neg (by omega)]
              omega
        · have HW1 := fun (h : pageOk x = false) => walker_whole_shape wb x wr (by omega) (by omega) h
          have hc : decide ((p + 8) % 64 = 0 ∧ 64 < left) = false := decide_eq_false (by omega)
          cases hpg : pageOk x with
          | false =>
            have HWH := Lib.hid (walker_whole_shape wb x wr (by omega) (by omega) hpg)
            unfold shapeErr at HWH
            rw [hpg, if_pos rfl] at HR
            have HR' := Lib.hid HR
            clear HR hpg hc HW1
            by_cases h56 : p % 64 = 56
            all_goals
              go_wp2_with fail
              refine HN.out.mono ?_
              rintro e w' ⟨rfl, rfl⟩
              go_wp2_with fail
              refine HWH.out.mono ?_
              rintro e w' ⟨rfl, rfl⟩
              clear HN HWH c0 c1
              go_wp2
              go_ret
              exact ⟨by rw [← HR'.out]; rfl, (fun q => by rw [← HR'.out] at q; cases q), HIv.out.bel⟩
          | true =>
            have hpg' := (pageOk_iff x).1 hpg
            rw [hpg, if_neg (by simp), if_neg hm56] at HR
            cases hf : memFits bs.length x (min 64 left) with
            | false =>
              have HWH := Lib.hid (walker_whole_bad wb b mb bs x left segs wr HM1.out HIv.out.walk (by omega) (by omega) hpg hl0 hl1 hf)
              unfold memRangeErr at HWH
              rw [hf, if_neg (by simp)] at HR
              have HR' := Lib.hid HR
              clear HR hpg hc HW1 hf
              by_cases h56 : p % 64 = 56
              all_goals
                go_wp2_with fail
                refine HN.out.mono ?_
                rintro e w' ⟨rfl, rfl⟩
                go_wp2_with fail
                refine HWH.out.mono ?_
                rintro e w' ⟨rfl, rfl⟩
                clear HN HWH c0 c1
                go_wp2
                go_ret
                exact ⟨by rw [← HR'.out]; rfl, (fun q => by rw [← HR'.out] at q; cases q), HIv.out.bel⟩
            | true =>
              have hsl := HIv.out.sl
              have HWH := Lib.hid (walker_whole_ok wb b mb bs x left segs wr HM1.out HIv.out.walk hb1 hb2 (by omega) (by omega) (by omega) hpg hl0 hl1 hf)
              rw [hf, if_pos rfl] at HR
              have HR' := Lib.hid HR
              clear HR hpg hc HW1 hf
              have hmin0 : 1 ≤ min 64 left := by omega
              have hmin1 : min 64 left ≤ left := by omega
              have hmin2 : 64 < left → min 64 left = 64 := by omega
              generalize min 64 left = n at *
              by_cases h56 : p % 64 = 56
              all_goals
                go_wp2_with fail
                refine HN.out.mono ?_
                rintro e w' ⟨rfl, rfl⟩
                go_wp2_with fail
                refine HWH.out.mono ?_
                rintro e w2 ⟨rfl, hw2, hbel2⟩
                have HW2 := Lib.hid hw2
                have HL2 := Lib.hid hw2.left
                have HB2 := Lib.hid (HIv.out.bel.trans hbel2)
                clear hw2 hbel2 HN HWH c0 c1
                go_wp2
                go_roundw
                case rel =>
                  refine ⟨p + 8, left - n, segs ++ [(x, n)], f, rfl, by omega, by omega, by omega, by omega, by omega, ?_, HW2.out, HB2.out, HR'.out, ?_⟩
                  · simp only [List.length_append, List.length_singleton]; omega
                  · have := HIv.out.most
                    unfold listMost at this ⊢
                    split at this <;> split <;> omega
                case measure =>
                  simp only [intOf, HLf.out, HL2.out]
                  unfold listMost
                  split <;> first | omega | (split <;> omega)
end Go.Proofs.YtnapgigemdmigaaDoor
