/- Contracts of mem.Memory.Number and SetNumber. -/
import Derived.Test.YtnapgigemdmigaaDoorMem
import Derived.Test.YtnapgigemdmigaaDoorLeNum
import Derived.Test.YtnapgigemdmigaaDoorBase2
import Derived.Test.YtnapgigemdmigaaDoorSplice
namespace Go.Proofs.YtnapgigemdmigaaDoor
open Go.RowKit Go.WideShapes
set_option linter.unusedVariables false

theorem MemAt.set {w : World} {b mb : Nat} {bs : List Int} (h : MemAt w b mb bs) (q : Nat) (v : Int) (hq : q < bs.length) (hv : 0 ≤ v ∧ v ≤ 255) :
    MemAt (w.setCell ⟨mb, q, none⟩ (.int .u8 v)) b mb (bs.set q v) := by
  refine ⟨?_, ?_, h.apart, by simpa using h.most, ?_⟩
  · have := h.head.setOther (a := ⟨mb, q, none⟩) (fun e => h.apart e.symm) (.int .u8 v)
    simpa using this
  · refine (h.body.set q (.int .u8 v)).of ?_
    rw [List.setIfInBounds_toArray, List.map_set]
  · intro x hx
    rcases List.mem_or_eq_of_mem_set hx with hx | rfl
    · exact h.byte x hx
    · exact hv
/-- what Number tells of eight bytes -/
def NumRes (ys : List Int) (e : Ending) : Prop := e = .returned (if leNum ys ≤ 4611686018427387904 then .tuple #[.int .i64 (leNum ys), .nilIface] else .tuple #[.int .i64 0, memRangeErr])
set_option maxRecDepth 100000 in
set_option maxHeartbeats 2000000 in
theorem mem_number_core (b mb : Nat) (bs : List Int) (p : Nat) (w : World) (h : MemAt w b mb bs) (hp : p + 8 ≤ bs.length) (ys : List Int) (hys : ys = (bs.drop p).take 8) :
    Calls Tryd.prog 33 #[.pointer (some ⟨b, 0, none⟩), .int .i64 p] w fun e w' => NumRes ys e ∧ w = w' := by
  have hl : ys.length = 8 := by subst hys; simp; omega
  have hc := h.cells p 8 hp
  have hpo : partOff p 8 = p := rfl
  rw [hpo] at hc
  have hbyte : ∀ x ∈ ys, 0 ≤ x ∧ x ≤ 255 := fun x hx => by subst hys; exact h.byte x (List.mem_of_mem_drop (List.mem_of_mem_take hx))
  rw [← hys] at hc
  have Hm := Lib.hid h
  have Hc := Lib.hid hc
  have Hl := Lib.hid hl
  have Hy := Lib.hid hbyte
  have hm := h.most
  clear h hc hl hbyte hys hpo
  go_enter Tryd.func33, Tryd.ntmps33
  go_wp2_with fail
  refine (mem_part_ok b mb bs.length p 8 _ Hm.out.c0 Hm.out.most hp).mono ?_
  rintro e w' ⟨rfl, rfl⟩
  rw [show partOff p 8 = p from rfl]
  go_wp2
  go_loop [8, 22] (fun x i => ∃ k : Nat, k ≤ 8 ∧ i = .int .i64 k ∧ x = .int .u64 (leNum (ys.take k))) (fun _ i => 8 - (intOf i).toNat)
  case atStart => exact ⟨0, by omega, rfl, rfl⟩
  case round =>
    obtain ⟨k, hk, rfl, rfl⟩ := hrel
    by_cases hlt : k < 8
    · have c := Hc.out k hlt
      rw [add_plain] at c
      have hbd := leNum_bd (ys.take k) (fun x hx => Hy.out x (List.mem_of_mem_take hx))
      have hsn : leNum (ys.take (k + 1)) = leNum (ys.take k) + 256 ^ k * ys.getD k 0 := by
        have hkl : k < ys.length := by rw [Hl.out]; exact hlt
        have e : ys.take (k + 1) = ys.take k ++ [ys.getD k 0] := by
          rw [List.take_succ_eq_append_getElem hkl]; simp [List.getD, List.getElem?_eq_getElem hkl]
        rw [e, leNum_snoc]; simp [Nat.min_eq_left (Nat.le_of_lt hkl)]
      have hv : 0 ≤ ys.getD k 0 ∧ ys.getD k 0 ≤ 255 := by
        have hkl : k < ys.length := by rw [Hl.out]; exact hlt
        have e : ys.getD k 0 = ys[k] := by simp [List.getD, List.getElem?_eq_getElem hkl]
        rw [e]; exact Hy.out _ (List.getElem_mem _)
      have hkl : (ys.take k).length = k := by simp [Hl.out]; omega
      rw [hkl] at hbd
      have Hsn := Lib.hid hsn
      clear hsn hkl
      generalize ys.getD k 0 = v at *
      generalize leNum (ys.take k) = X at *
      obtain ⟨v0, v1⟩ := hv
      obtain ⟨x0, x1⟩ := hbd
      go_wp2
      go_round
      case rel => exact ⟨k + 1, by omega, by go_num, by rw [or_shift k X v hlt x0 x1 v0 v1, Hsn.out]⟩
      case measure => simp [intOf]; omega
    · obtain rfl : k = 8 := by omega
      have e : ys.take 8 = ys := by rw [← Hl.out]; exact List.take_length
      rw [e]
      have hbd := leNum_bd ys Hy.out
      rw [Hl.out] at hbd
      have e2 : (256 : Int) ^ 8 = 18446744073709551616 := rfl
      rw [e2] at hbd
      clear e2 e
      generalize hX : leNum ys = X at hbd ⊢
      have HX := Lib.hid hX
      clear hX
      obtain ⟨x0, x1⟩ := hbd
      by_cases hX : X ≤ 4611686018427387904
      · go_wp2
        go_ret2
        refine ⟨?_, rfl⟩
        unfold NumRes
        rw [HX.out, if_pos hX]
        rfl
      · have hX' : 4611686018427387904 < X := by omega
        go_wp2
        go_ret2
        refine ⟨?_, rfl⟩
        unfold NumRes
        rw [HX.out, if_neg (by omega)]
        rfl

theorem mem_number_bad (b mb : Nat) (bs : List Int) (p : Int) (w : World) (h : MemAt w b mb bs) (hp0 : -9223372036854775808 ≤ p) (hp1 : p ≤ 9223372036854775807) (hx : p < 0 ∨ (bs.length : Int) - 8 < p) :
    Calls Tryd.prog 33 #[.pointer (some ⟨b, 0, none⟩), .int .i64 p] w fun e w' => e = .returned (.tuple #[.int .i64 0, memRangeErr]) ∧ w = w' := by
  have Hm := Lib.hid h
  have Hx := Lib.hid hx
  clear h hx
  go_enter Tryd.func33, Tryd.ntmps33
  go_wp2_with fail
  refine (mem_part_bad b mb bs.length p 8 _ Hm.out.c0 Hm.out.most hp0 hp1 (by omega) (by omega) (by have := Hx.out; omega)).mono ?_
  rintro e w' ⟨rfl, rfl⟩
  unfold memRangeErr
  go_wp2
  go_ret2
  exact ⟨rfl, rfl⟩

theorem mem_set_bad (b mb : Nat) (bs : List Int) (p x : Int) (w : World) (h : MemAt w b mb bs) (hp0 : -9223372036854775808 ≤ p) (hp1 : p ≤ 9223372036854775807) (hx0 : -9223372036854775808 ≤ x) (hx1 : x ≤ 9223372036854775807)
    (hx : x < 0 ∨ 4611686018427387904 < x ∨ p < 0 ∨ (bs.length : Int) - 8 < p) :
    Calls Tryd.prog 35 #[.pointer (some ⟨b, 0, none⟩), .int .i64 p, .int .i64 x] w fun e w' => e = .returned memRangeErr ∧ w = w' := by
  have Hm := Lib.hid h
  clear h
  by_cases h1 : x < 0
  · clear hx
    go_enter Tryd.func35, Tryd.ntmps35
    go_wp2
    go_ret
    exact ⟨rfl, rfl⟩
  by_cases h2 : 4611686018427387904 < x
  · clear hx
    go_enter Tryd.func35, Tryd.ntmps35
    go_wp2
    go_ret
    exact ⟨rfl, rfl⟩
  have Hx : Hid (p < 0 ∨ (bs.length : Int) - 8 < p) := by rcases hx with h | h | h <;> first | omega | exact h
  clear hx
  go_enter Tryd.func35, Tryd.ntmps35
  go_wp2_with fail
  refine (mem_part_bad b mb bs.length p 8 _ Hm.out.c0 Hm.out.most hp0 hp1 (by omega) (by omega) (by have := Hx.out; omega)).mono ?_
  rintro e w' ⟨rfl, rfl⟩
  go_wp2
  go_loop [25] (fun i => i = .int .i64 0) (fun i => 0)
  case atStart => rfl
  case round =>
    subst hrel
    go_wp2
    go_ret
    exact ⟨rfl, rfl⟩

set_option maxRecDepth 100000 in
set_option maxHeartbeats 2000000 in
theorem mem_set_ok (b mb : Nat) (bs : List Int) (p : Nat) (x : Int) (w : World) (h : MemAt w b mb bs) (hp : p + 8 ≤ bs.length) (hx0 : 0 ≤ x) (hx1 : x ≤ 4611686018427387904) :
    Calls Tryd.prog 35 #[.pointer (some ⟨b, 0, none⟩), .int .i64 p, .int .i64 x] w fun e w' => e = .returned .nilIface ∧ MemAt w' b mb (splice bs p (leDig 8 x)) ∧ Keep (· = mb) w w' := by
  have Hm := Lib.hid h
  have hm := h.most
  have hbl := h.body.lt
  clear h
  go_enter Tryd.func35, Tryd.ntmps35
  go_wp2_with fail
  refine (mem_part_ok b mb bs.length p 8 _ Hm.out.c0 Hm.out.most hp).mono ?_
  rintro e w' ⟨rfl, rfl⟩
  rw [show partOff p 8 = p from rfl]
  go_wp2
  go_loopw [25] (fun i wr => ∃ k : Nat, k ≤ 8 ∧ i = .int .i64 k ∧ MemAt wr b mb (splice bs p ((leDig 8 x).take k)) ∧ Keep (· = mb) w wr) (fun i _ => 8 - (intOf i).toNat)
  case atStart => exact ⟨0, by omega, rfl, by simpa [splice] using Hm.out, Keep.refl _ _⟩
  case round =>
    obtain ⟨k, hk, rfl, hmr, hkr⟩ := hrel
    by_cases hlt : k < 8
    · have hfree := hmr.body.free (p + k)
      have hcell := hmr.body.cell (p + k)
      have hlen : (splice bs p ((leDig 8 x).take k)).length = bs.length := length_splice _ _ _ (by simp [leDig_length]; omega)
      have hcell' : ∃ v0, wr.cell? ⟨mb, p + k, none⟩ = some v0 := by
        rw [hcell]
        refine ⟨_, Array.getElem?_eq_getElem (by simp [hlen]; omega)⟩
      obtain ⟨v0, hcell'⟩ := hcell'
      have Hmr := Lib.hid hmr
      have Hkr := Lib.hid hkr
      have Hlen := Lib.hid hlen
      clear hmr hkr hlen hcell
      go_wp2
      go_roundw
      case rel =>
        refine ⟨k + 1, by omega, by go_num, ?_, (Hkr.out).setCell (.inl rfl) _⟩
        rw [← splice_set bs p (leDig 8 x) k (by simp [leDig_length]; omega) (by omega)]
        have e : (leDig 8 x).getD k 0 = x / 2 ^ (8 * k) % 256 := by
          rw [leDig_getD 8 x k hlt, Int.pow_mul]; rfl
        rw [e]
        exact Hmr.out.set (p + k) _ (by rw [Hlen.out]; omega) (by omega)
      case measure => simp [intOf]; omega
    · obtain rfl : k = 8 := by omega
      have e : (leDig 8 x).take 8 = leDig 8 x := by rw [← leDig_length 8 x]; exact List.take_length
      rw [e] at hmr
      clear e
      go_wp2
      go_ret
      exact ⟨rfl, hmr, hkr⟩
end Go.Proofs.YtnapgigemdmigaaDoor
