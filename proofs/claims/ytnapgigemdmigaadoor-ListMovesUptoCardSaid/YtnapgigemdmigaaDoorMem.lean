/- Contracts of package mem. -/
import Derived.Test.YtnapgigemdmigaaDoorBase
import Derived.Test.YtnapgigemdmigaaDoorProg
import Derived.WalkSpells
import Derived.Deep.OwnRows
import Derived.Lib.Hide
import Derived.Lib.SliceRun
namespace Go.Proofs.YtnapgigemdmigaaDoor
open Go.RowKit Go.WideShapes
set_option linter.unusedVariables false

def memRangeErr : Value := .iface 29 (.int .i64 1)

set_option maxHeartbeats 1000000 in
theorem mem_part_bad (b mb : Nat) (L : Nat) (p n : Int) (w : World) (c0 : w.cell? ⟨b, 0, none⟩ = some (.slice (some ⟨mb, 0, none⟩) L L))
    (hL : L ≤ 16384) (hp0 : -9223372036854775808 ≤ p) (hp1 : p ≤ 9223372036854775807) (hn0 : -9223372036854775808 ≤ n) (hn1 : n ≤ 9223372036854775807)
    (h : p < 0 ∨ n < 0 ∨ (L : Int) < n ∨ (L : Int) - n < p) :
    Calls Tryd.prog 37 #[.pointer (some ⟨b, 0, none⟩), .int .i64 p, .int .i64 n] w fun e w' => e = .returned (.tuple #[.slice none 0 0, memRangeErr]) ∧ w = w' := by
  by_cases h1 : p < 0
  · have d1 : decide (p < 0) = true := by simpa using h1
    go_enter Tryd.func37, Tryd.ntmps37
    go_wp2
    go_ret2
    exact ⟨rfl, rfl⟩
  have d1 : decide (p < 0) = false := by simpa using h1
  by_cases h2 : n < 0
  · have d2 : decide (n < 0) = true := by simpa using h2
    go_enter Tryd.func37, Tryd.ntmps37
    go_wp2
    go_ret2
    exact ⟨rfl, rfl⟩
  have d2 : decide (n < 0) = false := by simpa using h2
  by_cases h3 : (L : Int) < n
  · have d3 : decide ((L : Int) < n) = true := by simpa using h3
    go_enter Tryd.func37, Tryd.ntmps37
    go_wp2
    go_ret2
    exact ⟨rfl, rfl⟩
  have d3 : decide ((L : Int) < n) = false := by simpa using h3
  have d4 : decide ((L : Int) - n < p) = true := by simp; omega
  have hn2 : 0 ≤ n := by omega
  have hn3 : n ≤ L := by omega
  have hs : -9223372036854775808 ≤ (L : Int) - n := by omega
  go_enter Tryd.func37, Tryd.ntmps37
  go_wp2
  go_ret2
  exact ⟨rfl, rfl⟩
/-- where part's piece begins: its place, or 0 if it has no bytes -/
def partOff (p n : Nat) : Nat := if n = 0 then 0 else p
set_option maxHeartbeats 1000000 in
theorem mem_part_ok (b mb : Nat) (L p n : Nat) (w : World) (c0 : w.cell? ⟨b, 0, none⟩ = some (.slice (some ⟨mb, 0, none⟩) L L))
    (hL : L ≤ 16384) (h : p + n ≤ L) :
    Calls Tryd.prog 37 #[.pointer (some ⟨b, 0, none⟩), .int .i64 p, .int .i64 n] w fun e w' => e = .returned (.tuple #[.slice (some ⟨mb, partOff p n, none⟩) n n, .nilIface]) ∧ w = w' := by
  have d1 : decide ((p : Int) < 0) = false := by simp
  have d2 : decide ((n : Int) < 0) = false := by simp
  have d3 : decide ((L : Int) < (n : Int)) = false := by simp; omega
  have d4 : decide ((L : Int) - n < p) = false := by simp; omega
  by_cases hn : n = 0
  · subst hn
    have e : partOff p 0 = 0 := rfl
    rw [e]
    clear e
    go_enter Tryd.func37, Tryd.ntmps37
    go_wp2
    all_goals (go_ret2; exact ⟨rfl, rfl⟩)
  · have e : partOff p n = p := if_neg hn
    rw [e]
    clear e
    have hpL : ¬ p = L := by omega
    go_enter Tryd.func37, Tryd.ntmps37
    go_wp2
    go_ret2
    simp

/-- A memory: block b is the struct, block mb holds the bytes. -/
structure MemAt (w : World) (b mb : Nat) (bs : List Int) : Prop where
  head : Blk w b #[.slice (some ⟨mb, 0, none⟩) bs.length bs.length] 75
  body : Blk w mb (bs.map (Value.int .u8)).toArray 5
  apart : b ≠ mb
  most : bs.length ≤ 16384
  byte : ∀ x ∈ bs, 0 ≤ x ∧ x ≤ 255

theorem mem_new_bad (n : Int) (w : World) (h : n < 0 ∨ 16384 < n) :
    Calls Tryd.prog 9 #[.int .i64 n] w fun e w' => e = .returned (.tuple #[.pointer none, memRangeErr]) ∧ w = w' := by
  by_cases h1 : n < 0
  · go_enter Tryd.func9, Tryd.ntmps9
    go_wp2
    go_ret2
    exact ⟨rfl, rfl⟩
  have h2 : 16384 < n := by omega
  go_enter Tryd.func9, Tryd.ntmps9
  go_wp2
  go_ret2
  exact ⟨rfl, rfl⟩

theorem madeCells_u8 (n : Nat) : madeCells #[.int .u8 0] n = ((List.replicate n (0 : Int)).map (Value.int .u8)).toArray := by
  apply Array.toList_inj.1
  rw [toList_madeCells_one]
  simp

theorem mem_new_ok (n : Nat) (w : World) (h : n ≤ 16384) :
    Calls Tryd.prog 9 #[.int .i64 n] w fun e w' => e = .returned (.tuple #[.pointer (some ⟨w.heap.size + 1, 0, none⟩), .nilIface]) ∧ MemAt w' (w.heap.size + 1) w.heap.size (List.replicate n 0) ∧ Below w.heap.size w w' := by
  have hmk := fun (w : World) => run_make_row' (P := Tryd.prog) 30 5 (.int .u8 0) 1 Tryd.underlying30 (by kernel_rfl) rfl .i64 .i64 n (by omega) (by omega) w
  go_enter Tryd.func9, Tryd.ntmps9
  go_wp2
  go_ret2
  refine ⟨rfl, ⟨?_, ?_, by omega, by simpa using h, by simp⟩, ?_⟩
  · have e := Blk.new (w.alloc (.cells (madeCells #[.int .u8 0] n) 5)) #[.slice (some ⟨w.heap.size, 0, none⟩) n n] 75
    simpa using e
  · exact ((Blk.new w (madeCells #[.int .u8 0] n) 5).of (madeCells_u8 n)).alloc _
  · exact ((Below.refl _ _).alloc (Nat.le_refl _) _).alloc (by simp) _

set_option maxHeartbeats 1000000 in
theorem bytes_clone (a : Addr) (n c : Nat) (xs : List Int) (w : World) (hx : xs.length = n) (hbig : n ≤ 140737488355328) (hc : ∀ i, i < n → w.cell? (a.add i) = some (.int .u8 (xs.getD i 0))) :
    Calls Tryd.prog 38 #[.slice (some a) n c] w fun e w' => ∃ v', e = .returned v' ∧ w'.ownsRow w.heap.size 5 1 v' n (xs.map (Value.int .u8)) ∧ v' ≠ .slice none 0 0 ∧ Below w.heap.size w w' := by
  obtain ⟨i0, hi, hz0, hz1, hz2⟩ := info_parts (P := Tryd.prog) (e := 5) (z := .int .u8 0) (size := 1) (bytes := 1) (by kernel_rfl)
  have q22 : ∀ (w : World) (a : Option Addr) (n c n' c' : Nat), (binOp .eql 30 (.slice a n c) (.slice none n' c')).run Tryd.prog w = .ok (.bool a.isNone) w := fun w a n c n' c' => Lib.run_eql_slice_nil w _ _ a n c n' c' Tryd.underlying30
  have A := Lib.hid hc
  clear hc
  go_enter Tryd.func38, Tryd.ntmps38
  go_wp2_with (at_builtin; refine wpList_append_own _ rfl _ _ 30 rfl w.heap.size 5 i0 (.int .u8 0) 1 1 Tryd.underlying30 hi hz0 hz1 hz2 rfl (by decide) _ _ _ rfl (World.ownsRow_made w #[] 0 (Nat.le_refl _) (Nat.zero_le _) rfl) a n c (xs.map (Value.int .u8)) rfl ?qc1 ?qc2 ?qc3 ?qc4 ?qc5 ?qc6 ?_)
  case qc1 => simp; omega
  case qc2 =>
    intro j u hj
    have hjn : j < n := by
      have := (List.getElem?_eq_some_iff.1 hj).1
      simp at this
      omega
    refine Lib.cell?_alloc_some _ ?_
    rw [A.out j hjn]
    have e : (xs.map (Value.int .u8))[j]? = some (Value.int .u8 (xs.getD j 0)) := by simp [List.getD, List.getElem?_eq_getElem (show j < xs.length by omega)]
    rw [e] at hj
    exact hj
  case qc3 => intro u hu; obtain ⟨x, _, rfl⟩ := List.mem_map.1 hu; rfl
  case qc4 => unfold maxLen; omega
  case qc5 => omega
  case qc6 => simp
  intro v' w1 hown hgrow hnil
  go_wp2
  go_ret
  refine ⟨v', rfl, by simpa using hown, ?_, ?_⟩
  · first | exact hnil | (intro e; exact absurd (hnil.1 e).1 (by simp))
  · exact ((Below.refl _ w).alloc (Nat.le_refl _) _).grown hgrow (by simp) (by intro k hk; simp [Value.ownBlock] at hk; omega)
theorem bytes_clone_nil (n c : Nat) (w : World) :
    Calls Tryd.prog 38 #[.slice none n c] w fun e w' => e = .returned (.slice none 0 0) ∧ w = w' := by
  have q22 : ∀ (w : World) (a : Option Addr) (n c n' c' : Nat), (binOp .eql 30 (.slice a n c) (.slice none n' c')).run Tryd.prog w = .ok (.bool a.isNone) w := fun w a n c n' c' => Lib.run_eql_slice_nil w _ _ a n c n' c' Tryd.underlying30
  go_enter Tryd.func38, Tryd.ntmps38
  go_wp2
  go_ret
  exact ⟨rfl, rfl⟩

/-- part's bytes, told of the memory's own cells -/
theorem MemAt.cells {w : World} {b mb : Nat} {bs : List Int} (h : MemAt w b mb bs) (p n : Nat) (hp : p + n ≤ bs.length) :
    ∀ i, i < n → w.cell? ((⟨mb, partOff p n, none⟩ : Addr).add i) = some (.int .u8 (((bs.drop p).take n).getD i 0)) := by
  intro i hi
  have e : partOff p n = p := if_neg (by omega)
  rw [e, add_plain, h.body.cell]
  have h2 : p + i < bs.length := by omega
  simp [List.getD, h2, hi, List.getElem?_drop]

theorem MemAt.c0 {w : World} {b mb : Nat} {bs : List Int} (h : MemAt w b mb bs) : w.cell? ⟨b, 0, none⟩ = some (.slice (some ⟨mb, 0, none⟩) bs.length bs.length) := h.head.cell 0

set_option maxHeartbeats 1000000 in
theorem mem_read_bad (b mb : Nat) (bs : List Int) (p n : Int) (w : World) (h : MemAt w b mb bs) (hp0 : -9223372036854775808 ≤ p) (hp1 : p ≤ 9223372036854775807) (hn0 : -9223372036854775808 ≤ n) (hn1 : n ≤ 9223372036854775807)
    (hx : p < 0 ∨ n < 0 ∨ (bs.length : Int) < n ∨ (bs.length : Int) - n < p) :
    Calls Tryd.prog 12 #[.pointer (some ⟨b, 0, none⟩), .int .i64 p, .int .i64 n] w fun e w' => e = .returned (.tuple #[.slice none 0 0, memRangeErr]) ∧ w = w' := by
  have Hx := Lib.hid hx
  have Hm := Lib.hid h
  clear hx h
  go_enter Tryd.func12, Tryd.ntmps12
  go_wp2_with fail
  refine (mem_part_bad b mb bs.length p n _ Hm.out.c0 Hm.out.most hp0 hp1 hn0 hn1 Hx.out).mono ?_
  rintro e w' ⟨rfl, rfl⟩
  go_wp2_with fail
  refine (bytes_clone_nil _ _ _).mono ?_
  rintro e w' ⟨rfl, rfl⟩
  go_wp2
  go_ret2
  exact ⟨rfl, rfl⟩

set_option maxHeartbeats 1000000 in
theorem mem_read_ok (b mb : Nat) (bs : List Int) (p n : Nat) (w : World) (h : MemAt w b mb bs) (hp : p + n ≤ bs.length) :
    Calls Tryd.prog 12 #[.pointer (some ⟨b, 0, none⟩), .int .i64 p, .int .i64 n] w fun e w' => ∃ g cap, e = .returned (.tuple #[.slice (some ⟨g, 0, none⟩) n cap, .nilIface]) ∧
      w'.ownsRow w.heap.size 5 1 (.slice (some ⟨g, 0, none⟩) n cap) n (((bs.drop p).take n).map (Value.int .u8)) ∧ Below w.heap.size w w' := by
  have Hm := Lib.hid h
  have hm := h.most
  clear h
  go_enter Tryd.func12, Tryd.ntmps12
  go_wp2_with fail
  refine (mem_part_ok b mb bs.length p n _ Hm.out.c0 Hm.out.most hp).mono ?_
  rintro e w' ⟨rfl, rfl⟩
  go_wp2_with fail
  refine (bytes_clone _ n n ((bs.drop p).take n) _ (by simp; omega) (by omega) (Hm.out.cells p n hp)).mono ?_
  rintro e w' ⟨v, rfl, hown, hnil, hbel⟩
  have hv : ∃ g cap, v = .slice (some ⟨g, 0, none⟩) n cap := by
    obtain ⟨_, h | ⟨g, cap, cur, h, _⟩⟩ := hown
    · exact absurd h.1 hnil
    · exact ⟨g, cap, h⟩
  obtain ⟨g, cap, hv⟩ := hv
  rw [hv] at hown ⊢
  clear hv hnil
  have Ho := Lib.hid hown
  have Hb := Lib.hid hbel
  clear hown hbel
  go_wp2
  go_ret2
  exact ⟨g, cap, rfl, Ho.out, Hb.out⟩
end Go.Proofs.YtnapgigemdmigaaDoor
