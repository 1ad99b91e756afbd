/- Contracts of mem.Memory.Write. -/
import Derived.Test.YtnapgigemdmigaaDoorMem
import Derived.Test.YtnapgigemdmigaaDoorBase2
namespace Go.Proofs.YtnapgigemdmigaaDoor
open Go.RowKit Go.WideShapes
set_option linter.unusedVariables false

set_option maxHeartbeats 1000000 in
theorem mem_write_ok (b mb : Nat) (bs : List Int) (p : Nat) (a : Option Addr) (c : Nat) (xs : List Int) (w : World) (h : MemAt w b mb bs) (hp : p + xs.length ≤ bs.length)
    (hx : xs.length = 0 ∨ ∃ ad, a = some ad ∧ ∀ i, i < xs.length → w.cell? (ad.add i) = some (.int .u8 (xs.getD i 0))) (hbx : ∀ x ∈ xs, 0 ≤ x ∧ x ≤ 255) :
    Calls Tryd.prog 32 #[.pointer (some ⟨b, 0, none⟩), .int .i64 p, .slice a xs.length c] w fun e w' => e = .returned .nilIface ∧ MemAt w' b mb (splice bs p xs) ∧ Keep (· = mb) w w' := by
  have hm := h.most
  have hbody := h.body
  have Hm := Lib.hid h
  have Hx := Lib.hid hx
  clear h hx
  obtain ⟨cs, hcs⟩ : ∃ cs, cs = xs.map (Value.int .u8) := ⟨_, rfl⟩
  obtain ⟨cur, hcur⟩ : ∃ cur, cur = bs.map (Value.int .u8) := ⟨_, rfl⟩
  have hl1 : cs.length = xs.length := by simp [hcs]
  have hl2 : cur.length = bs.length := by simp [hcur]
  have hc3 : ∀ (j : Nat) (v : Value), cs[j]? = some v → ∃ x, xs[j]? = some x ∧ v = Value.int .u8 x := by
    intro j v hj
    subst hcs
    rw [List.getElem?_map, Option.map_eq_some_iff] at hj
    obtain ⟨x, h1, h2⟩ := hj
    exact ⟨x, h1, h2.symm⟩
  have hone : ∀ v ∈ cs, v.oneCell' = true := by
    intro v hv; subst hcs; obtain ⟨x, _, rfl⟩ := List.mem_map.1 hv; rfl
  have Hc3 := Lib.hid hc3
  have Hone := Lib.hid hone
  have Hl1 := Lib.hid hl1
  have Hl2 := Lib.hid hl2
  rw [← hcur] at hbody
  have Hbody := Lib.hid hbody
  have Hcs := Lib.hid hcs
  have Hcur := Lib.hid hcur
  clear hc3 hone hl1 hl2 hcs hcur hbody
  go_enter Tryd.func32, Tryd.ntmps32
  go_wp2_with fail
  refine (mem_part_ok b mb bs.length p xs.length _ Hm.out.c0 Hm.out.most hp).mono ?_
  rintro e w' ⟨rfl, rfl⟩
  go_wp2_with (with_reducible refine wpList_copy_keep rfl (.tmp 17) (.tmp 18) 30 30 rfl 5 Tryd.underlying30 (by kernel_rfl) _ _ _ _ _ _ rfl rfl mb p cur 5 Hbody.out cs ?c1 ?c2 ?c3 Hone.out ?_)
  case c1 => rw [Hl1.out]; simp
  case c2 =>
    intro hpos
    rw [Hl1.out] at hpos
    refine ⟨by unfold partOff; rw [if_neg (by omega)], ?_⟩
    rcases Hx.out with h0 | ⟨ad, ha, hc⟩
    · omega
    · refine ⟨ad, ha, fun j v hj => ?_⟩
      obtain ⟨x, h1, h2⟩ := Hc3.out j v hj
      have hjl : j < xs.length := (List.getElem?_eq_some_iff.1 h1).1
      rw [hc j hjl, h2]
      simp [List.getD, h1]
  case c3 => rw [Hl1.out, Hl2.out]; exact hp
  intro w1 hb1 hk1
  have Hb1 := Lib.hid hb1
  have Hk1 := Lib.hid hk1
  clear hb1 hk1
  go_wp2
  go_ret
  refine ⟨rfl, ⟨?_, ?_, Hm.out.apart, ?_, ?_⟩, Hk1.out⟩
  · rw [length_splice _ _ _ hp]
    exact Hk1.out.blk Hm.out.head Hm.out.apart
  · rw [map_splice, ← Hcur.out, ← Hcs.out]; exact Hb1.out
  · rw [length_splice _ _ _ hp]; exact hm
  · intro x hx
    rcases mem_splice hx with hx | hx
    · exact Hm.out.byte x hx
    · exact hbx x hx

set_option maxHeartbeats 1000000 in
theorem mem_write_bad (b mb : Nat) (bs : List Int) (p : Int) (a : Option Addr) (n c : Nat) (w : World) (h : MemAt w b mb bs) (hp0 : -9223372036854775808 ≤ p) (hp1 : p ≤ 9223372036854775807) (hn : n ≤ 9223372036854775807)
    (hx : p < 0 ∨ (bs.length : Int) < n ∨ (bs.length : Int) - n < p) :
    Calls Tryd.prog 32 #[.pointer (some ⟨b, 0, none⟩), .int .i64 p, .slice a n c] w fun e w' => e = .returned memRangeErr ∧ w = w' := by
  have Hm := Lib.hid h
  have Hx := Lib.hid hx
  clear h hx
  go_enter Tryd.func32, Tryd.ntmps32
  go_wp2_with fail
  refine (mem_part_bad b mb bs.length p n _ Hm.out.c0 Hm.out.most hp0 hp1 (by omega) (by omega) (by have := Hx.out; omega)).mono ?_
  rintro e w' ⟨rfl, rfl⟩
  go_wp2_with (with_reducible refine wpList_copy_nothing rfl (.tmp 17) (.tmp 18) 30 30 rfl 5 Tryd.underlying30 (by kernel_rfl) _ _ _ _ _ _ rfl rfl ?c1 ?_)
  case c1 => simp
  go_wp2
  go_ret
  exact ⟨rfl, rfl⟩
end Go.Proofs.YtnapgigemdmigaaDoor
