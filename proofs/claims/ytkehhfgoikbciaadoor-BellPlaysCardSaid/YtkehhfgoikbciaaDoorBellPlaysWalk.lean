/- granarylaw3.BellPlays returns true, and writes nothing that was there. -/
import Derived.Test.YtkehhfgoikbciaaDoorBell
import Derived.Test.YtkehhfgoikbciaaDoorTold
import Derived.Test.YtkehhfgoikbciaaDoorPick
import Derived.Test.YtkehhfgoikbciaaDoorRd
import Derived.Test.YtkehhfgoikbciaaDoorBase2
import Derived.Laws.OwnMore
import Derived.Lib.Hide
namespace Go.Proofs.YtkehhfgoikbciaaDoor
open Go.RowKit
set_option linter.unusedVariables false

/-- the bell and the ages of those that wait stand alike behind t calls -/
structure BSim (l d : Int) (t : Nat) (s : BS) (n : Nat) (y : Nat → Int) : Prop where
  hl : s.l = l
  hd : s.d = d
  hn : s.n = n
  ha : s.a = if n = 0 then 0 else y 0
  age : ∀ i, i < n → 0 ≤ y i ∧ y i ≤ t
  r0 : 0 ≤ s.r
  r1 : s.r ≤ t
  len : n ≤ t
theorem BSim.post {l d : Int} {t : Nat} {s : BS} {n : Nat} {y : Nat → Int} (h : BSim l d t s n y) : BSim l d (t + 1) { s with n := s.n + 1 } (n + 1) (fun i => if i = n then 0 else y i) := by
  obtain ⟨h1, h2, h3, h4, h5, h6, h7, h8⟩ := h
  refine ⟨h1, h2, by simp only; omega, ?_, fun i hi => ?_, h6, by simp only; omega, by omega⟩
  · simp only [h4]
    by_cases e : n = 0
    · subst e; simp
    · have : ¬ (0 = n) := by omega
      rw [if_neg e, if_neg (by omega), if_neg this]
  · split
    · omega
    · have := h5 i (by omega); omega
theorem BSim.tick {l d : Int} {t : Nat} {s : BS} {n : Nat} {y : Nat → Int} (h : BSim l d t s n y) : BSim l d (t + 1) { s with a := if 0 < s.n then s.a + 1 else s.a } n (fun i => y i + 1) := by
  obtain ⟨h1, h2, h3, h4, h5, h6, h7, h8⟩ := h
  refine ⟨h1, h2, h3, ?_, fun i hi => ?_, h6, by simp only; omega, by omega⟩
  · simp only [h4, h3]
    by_cases e : n = 0
    · subst e; simp
    · have : 0 < n := by omega
      simp [e]
  · have := h5 i hi; omega
theorem BSim.mask {l d : Int} {t : Nat} {s : BS} {n : Nat} {y : Nat → Int} (h : BSim l d t s n y) (on : Bool) : BSim l d (t + 1) { s with m := on } n y := by
  obtain ⟨h1, h2, h3, h4, h5, h6, h7, h8⟩ := h
  exact ⟨h1, h2, h3, h4, fun i hi => by have := h5 i hi; omega, h6, by simp only; omega, by omega⟩
theorem BSim.small {l d : Int} {t : Nat} {s : BS} {n : Nat} {y : Nat → Int} (h : BSim l d t s n y) (ht : t ≤ 1000000000000000000) : s.small := by
  obtain ⟨h1, h2, h3, h4, h5, h6, h7, h8⟩ := h
  have ha : 0 ≤ s.a ∧ s.a ≤ t := by
    rw [h4]
    split
    · omega
    · exact h5 0 (by omega)
  constructor <;> omega
/-- the row of ages -/
def agesOf (n : Nat) (y : Nat → Int) : List Value := (List.range n).map fun i => Value.int .i64 (y i)
theorem agesOf_set (n k : Nat) (y : Nat → Int) (v : Int) : (agesOf n y).set k (.int .i64 v) = agesOf n (fun i => if i = k then v else y i) := by
  apply List.ext_getElem?
  intro i
  unfold agesOf
  by_cases e : k = i
  · subst e
    by_cases hk : k < n <;> simp [hk]
  · have e' : ¬ i = k := fun x => e x.symm
    by_cases hi : i < n <;> simp [e, e', hi]
theorem agesOf_snoc (n : Nat) (y : Nat → Int) (v : Int) : agesOf n y ++ [.int .i64 v] = agesOf (n + 1) (fun i => if i = n then v else y i) := by
  unfold agesOf
  rw [List.range_succ, List.map_append]
  congr 1
  · apply List.map_congr_left
    intro i hi
    have : i < n := List.mem_range.1 hi
    simp [show ¬ i = n by omega]
  · simp
/-- a row that the call owns: its slice, and its first element -/
theorem own_form {w : World} {base : Nat} {e : TypeId} {v : Value} {n : Nat} {y : Nat → Int} (h : w.ownsRow base e 1 v n (agesOf n y)) :
    ∃ av cv, v = .slice av n cv ∧ (0 < n → ∃ g, av = some ⟨g, 0, none⟩ ∧ base ≤ g ∧ ∀ i, i < n → w.cell? ⟨g, i, none⟩ = some (.int .i64 (y i))) := by
  have h0 := h
  obtain ⟨_, ⟨rfl, rfl⟩ | ⟨g, cap, cur, rfl, h1, h2, h3, h4, h5, h6⟩⟩ := h
  · exact ⟨none, 0, rfl, fun h => by omega⟩
  · refine ⟨some ⟨g, 0, none⟩, cap, rfl, fun _ => ⟨g, rfl, h1, fun i hi => ?_⟩⟩
    rw [h0.cellAt i (by omega)]
    simp [agesOf, hi]
theorem own_block {w : World} {base : Nat} {e : TypeId} {size : Nat} {v : Value} {n : Nat} {xs : List Value} (h : w.ownsRow base e size v n xs) {k : Nat} (hk : v.ownBlock = some k) : base ≤ k := by
  obtain ⟨_, ⟨rfl, rfl⟩ | ⟨g, cap, cur, rfl, h1, _⟩⟩ := h
  · cases hk
  · cases hk; exact h1
theorem own_keep {w w' : World} {b base : Nat} {e : TypeId} {size : Nat} {v : Value} {n : Nat} {xs : List Value} (h : w.ownsRow base e size v n xs) (hk : Keep (· = b) w w') (hb : b < base) : w'.ownsRow base e size v n xs := by
  obtain ⟨hl, ⟨rfl, rfl⟩ | ⟨g, cap, cur, rfl, h1, h2, h3⟩⟩ := h
  · exact ⟨hl, .inl ⟨rfl, rfl⟩⟩
  · refine ⟨hl, .inr ⟨g, cap, cur, rfl, h1, ?_, h3⟩⟩
    rw [hk.block g (Array.getElem?_eq_some_iff.1 h2).1 (fun e => by omega)]; exact h2

/- THE WALK -/

set_option maxRecDepth 100000 in
set_option maxHeartbeats 8000000 in
theorem bellPlays_walk (w : World) (hg : Laid w) (l : Int) (hl0 : -9223372036854775808 ≤ l) (hl1 : l ≤ 9223372036854775807) (d : Int) (hd0 : -9223372036854775808 ≤ d) (hd1 : d ≤ 9223372036854775807)
    (a : Option Addr) (len cap : Nat) (z : List Int) (hz : IsRow .i64 8 w a len cap z) :
    Calls Tryd.prog 4 #[.int .i64 l, .int .i64 d, .slice a len cap] w fun e w' => e = .returned (.bool true) ∧ Below w.heap.size w w' := by
  have hlen : len * 8 ≤ 140737488351232 := by
    rcases hz with ⟨_, h, _⟩ | ⟨_, _, h1, h2, _⟩ <;> omega
  have hz' := Lib.hid hz
  have HG := Lib.hid hg
  have hpos := hg.pos
  obtain ⟨i0, hi, hz0', hz1, hz2⟩ := info_parts (P := Tryd.prog) (e := 3) (z := .int .i64 0) (size := 1) (bytes := 8) (by kernel_rfl)
  have Hi := Lib.hid hi
  have Hz0 := Lib.hid hz0'
  have Hz1 := Lib.hid hz1
  have Hz2 := Lib.hid hz2
  clear hz hg hi hz0' hz1 hz2
  go_enter Tryd.func4, Tryd.ntmps4
  by_cases hbad : l < 1 ∨ 64 < l ∨ d < 0 ∨ 1000 < d
  · have Hb := Lib.hid hbad
    have hBB : (decide (l < 1) || decide (64 < l) || decide (d < 0) || decide (1000 < d)) = true := by simp; omega
    have HB := Lib.hid hBB
    clear hbad hBB
    go_wp2_with fail
    refine (bell_new_bad _ _ _ Hb.out).mono ?_
    rintro e w' ⟨rfl, rfl⟩
    have E := Lib.hid (error_hit 1 1 w HG.out)
    unfold errV at E
    unfold rangeErr
    by_cases c1 : l < 1
    · go_wp2_with fail
      refine E.out.mono ?_
      rintro e w' ⟨rfl, hB⟩
      have HBB := Lib.hid hB
      clear hB
      go_wp2
      go_ret
      exact ⟨rfl, HBB.out⟩
    by_cases c2 : 64 < l
    · go_wp2_with fail
      refine E.out.mono ?_
      rintro e w' ⟨rfl, hB⟩
      have HBB := Lib.hid hB
      clear hB
      go_wp2
      go_ret
      exact ⟨rfl, HBB.out⟩
    by_cases c3 : d < 0
    · go_wp2_with fail
      refine E.out.mono ?_
      rintro e w' ⟨rfl, hB⟩
      have HBB := Lib.hid hB
      clear hB
      go_wp2
      go_ret
      exact ⟨rfl, HBB.out⟩
    have c4 : 1000 < d := by have := Hb.out; omega
    go_wp2_with fail
    refine E.out.mono ?_
    rintro e w' ⟨rfl, hB⟩
    have HBB := Lib.hid hB
    clear hB
    go_wp2
    go_ret
    exact ⟨rfl, HBB.out⟩
  · have h1 : 1 ≤ l := by omega
    have h2 : l ≤ 64 := by omega
    have h3 : 0 ≤ d := by omega
    have h4 : d ≤ 1000 := by omega
    clear hbad
    go_wp2_with fail
    refine (bell_new_ok _ _ _ h1 h2 h3 h4).mono ?_
    rintro e w' ⟨rfl, rfl⟩
    go_wp2_with fail
    have hb2 := Blk.new w (BS.cells ⟨l, d, 0, 0, 0, false⟩) 141
    have hw2 : Below w.heap.size w (w.alloc (.cells (BS.cells ⟨l, d, 0, 0, 0, false⟩) 141 (0, 0))) := (Below.refl _ _).alloc (Nat.le_refl _) _
    have hsz : (w.alloc (.cells (BS.cells ⟨l, d, 0, 0, 0, false⟩) 141 (0, 0))).heap.size = w.heap.size + 1 := by simp
    go_loopw [9, 10, 11, 12] (fun v rs ms i wr => ∃ (t : Nat) (s : BS) (n : Nat) (y : Nat → Int), t ≤ len ∧ i = .int .i64 t ∧ rs = .int .i64 s.r ∧ ms = .bool s.m ∧ wr.ownsRow (w.heap.size + 1) 3 1 v n (agesOf n y) ∧ BSim l d t s n y ∧ Blk wr w.heap.size s.cells 141 ∧ Below w.heap.size w wr) (fun _ _ _ i _ => len - (intOf i).toNat)
    case atStart => exact ⟨0, ⟨l, d, 0, 0, 0, false⟩, 0, fun _ => 0, Nat.zero_le _, rfl, rfl, rfl, World.ownsRow_nil _ _ _ _, ⟨rfl, rfl, rfl, rfl, fun i hi => by omega, Int.le_refl _, Int.le_refl _, Nat.le_refl _⟩, hb2, hw2⟩
    case round =>
      rename_i v0 _ _ _
      obtain ⟨t, s, n, y, ht, rfl, rfl, rfl, hown, hS, hb, hw⟩ := hrel
      obtain ⟨l', d', n', aa, r, m⟩ := s
      obtain rfl : l = l' := hS.hl.symm
      obtain rfl : d = d' := hS.hd.symm
      obtain rfl : n' = n := hS.hn
      have hwB := hw.size
      have HO := Lib.hid hown
      have HR := Lib.hid hS
      have HK0 := Lib.hid hb
      have HB0 := Lib.hid hw
      have Hsm := Lib.hid (hS.small (by omega))
      clear hb2 hw2 hown hS hb hw
      by_cases hlt : t < len
      · obtain ⟨b, off, rfl, hlc, _, hzl, hbW, hcell, hwf⟩ := hz'.out.at (by omega)
        have hc := hcell wr (HB0.out) t (by omega)
        clear hcell hwf
        generalize z.getD t 0 = x at hc
        by_cases hx : x = 1
        · subst hx
          go_wp2_with fail
          refine (bell_post _ ⟨l, d, (n : Int), aa, r, m⟩ _ HK0.out Hsm.out).mono ?_
          rintro e w2 ⟨rfl, hb', hk'⟩
          have HO2 := Lib.hid (own_keep HO.out hk' (by omega))
          have HB2 := Lib.hid (HB0.out.trans (hk'.below w.heap.size HB0.out.size (fun k e => by omega)))
          have HK := Lib.hid (show Blk w2 w.heap.size (BS.rung ⟨l, d, (n : Int) + 1, aa, r, m⟩).cells 141 from hb')
          have HS := Lib.hid (show BSim l d (t + 1) ⟨l, d, (n : Int) + 1, aa, r, m⟩ (n + 1) (fun i => if i = n then 0 else y i) from HR.out.post)
          clear hb' hk' HO
          go_wp2_with (at_builtin; refine wpList_append_own _ rfl _ _ 30 rfl (w.heap.size + 1) 3 i0 (.int .i64 0) 1 8 Tryd.underlying30 Hi.out Hz0.out Hz1.out Hz2.out rfl (by decide) _ _ _ rfl (HO2.out.alloc _) ⟨w2.heap.size, 0, none⟩ 1 1 [.int .i64 0] rfl rfl ?c1 ?c2 ?c3 ?c4 ?c5 ?_)
          case c1 => exact one_news _ _ _ _ rfl
          case c2 => intro u hu; simp at hu; subst hu; rfl
          case c3 => have := HR.out.len; unfold maxLen; omega
          case c4 => have := HR.out.len; omega
          case c5 => have := HB2.out.size; have := HK.out.lt; simp; omega
          intro v' w3 hown' hgrow _
          have HB := Lib.hid (show Below w.heap.size w w3 from (HB2.out.alloc HB2.out.size _).grown hgrow (by have := HB2.out.size; simp; omega) (fun k' hk' => by have := own_block HO2.out hk'; omega))
          have HK := Lib.hid (show Blk w3 w.heap.size (BS.rung ⟨l, d, (n : Int) + 1, aa, r, m⟩).cells 141 from (HK.out.alloc _).grown hgrow (fun k' hk' => by have := own_block HO2.out hk'; omega))
          have HO := Lib.hid (show w3.ownsRow (w.heap.size + 1) 3 1 v' (n + 1) (agesOf (n + 1) (fun i => if i = n then 0 else y i)) by rw [← agesOf_snoc]; exact hown')
          clear hown' hgrow HO2
          generalize (fun i => if i = n then (0 : Int) else y i) = Y at HS HO
          have HF := Lib.hid (own_form HO.out)
          obtain ⟨av, cv, rfl, hform⟩ := HF.out
          have Hfm := Lib.hid hform
          clear hform HF
          cases hm1 : m with
          | true =>
            subst hm1
            have e : BS.rung ⟨l, d, (n : Int) + 1, aa, r, true⟩ = ⟨l, d, (n : Int) + 1, aa, r, true⟩ := if_neg (fun h => by cases h.1)
            rw [e] at HK
            clear e
            go_wp2_with fail
            refine (bell_rings _ _ _ HK.out).mono ?_
            rintro e w' ⟨rfl, rfl⟩
            go_wp2_with fail
            refine (bell_waits _ _ _ HK.out).mono ?_
            rintro e w' ⟨rfl, rfl⟩
            go_wp2
            go_roundw
            case rel => exact ⟨t + 1, _, (n + 1), _, by omega, by go_num, rfl, rfl, HO.out, HS.out, HK.out, HB.out⟩
            case measure => simp [intOf]; omega
          | false =>
            subst hm1
            by_cases hn0 : (n + 1) = 0
            · exfalso; omega
            · obtain ⟨g, rfl, hgB, hcells⟩ := Hfm.out (by omega)
              have hc0 := hcells 0 (by omega)
              have d0 : decide ((0 : Int) < ((n : Int) + 1)) = true := decide_eq_true (by omega)
              have d0' : decide (0 < (n + 1)) = true := decide_eq_true (by omega)
              have hae := HS.out.ha
              simp only [if_neg hn0] at hae
              generalize hy1 : Y 0 = y1 at hc0 hae
              clear hy1
              by_cases hr : l ≤ ((n : Int) + 1) ∨ d ≤ y1
              · have e : BS.rung ⟨l, d, (n : Int) + 1, aa, r, false⟩ = ⟨l, d, 0, 0, r + 1, false⟩ := by
                  unfold BS.rung
                  rw [if_pos (show _ ∧ _ ∧ _ from ⟨rfl, (by simp only; omega), (by simp only; omega)⟩)]
                rw [e] at HK
                clear e
                have HS2 := Lib.hid (show BSim l d (t + 1) ⟨l, d, 0, 0, r + 1, false⟩ 0 (fun _ => 0) from ⟨rfl, rfl, rfl, rfl, fun i hi => by omega, by have := HS.out.r0; simp only at this ⊢; omega, by have := HR.out.r1; simp only at this ⊢; omega, by omega⟩)
                have hrb := HR.out.r1
                have hrb0 := HR.out.r0
                simp only at hrb hrb0
                by_cases hl : l ≤ ((n : Int) + 1)
                · have d1 : decide (l ≤ ((n : Int) + 1)) = true := by simpa using hl
                  clear hr hl hcells hae
                  go_wp2_with fail
                  refine (bell_rings _ _ _ HK.out).mono ?_
                  rintro e w' ⟨rfl, rfl⟩
                  go_wp2_with fail
                  refine (bell_waits _ _ _ HK.out).mono ?_
                  rintro e w' ⟨rfl, rfl⟩
                  go_wp2
                  go_roundw
                  case rel => exact ⟨t + 1, _, 0, fun _ => 0, by omega, by go_num, rfl, rfl, World.ownsRow_nil _ _ _ _, HS2.out, HK.out, HB.out⟩
                  case measure => simp [intOf]; omega
                · have d1 : decide (l ≤ ((n : Int) + 1)) = false := by simpa using hl
                  have d2 : decide (d ≤ y1) = true := by simpa using hr.resolve_left hl
                  clear hr hl hcells hae
                  go_wp2_with fail
                  refine (bell_rings _ _ _ HK.out).mono ?_
                  rintro e w' ⟨rfl, rfl⟩
                  go_wp2_with fail
                  refine (bell_waits _ _ _ HK.out).mono ?_
                  rintro e w' ⟨rfl, rfl⟩
                  go_wp2
                  go_roundw
                  case rel => exact ⟨t + 1, _, 0, fun _ => 0, by omega, by go_num, rfl, rfl, World.ownsRow_nil _ _ _ _, HS2.out, HK.out, HB.out⟩
                  case measure => simp [intOf]; omega
              · have e : BS.rung ⟨l, d, (n : Int) + 1, aa, r, false⟩ = ⟨l, d, (n : Int) + 1, aa, r, false⟩ := if_neg (by
                  rintro ⟨_, _, h⟩
                  apply hr
                  simp only at h
                  omega)
                rw [e] at HK
                clear e
                have d1 : decide (l ≤ ((n : Int) + 1)) = false := decide_eq_false (by omega)
                have d2 : decide (d ≤ y1) = false := decide_eq_false (by omega)
                clear hr hcells hae
                go_wp2_with fail
                refine (bell_rings _ _ _ HK.out).mono ?_
                rintro e w' ⟨rfl, rfl⟩
                go_wp2_with fail
                refine (bell_waits _ _ _ HK.out).mono ?_
                rintro e w' ⟨rfl, rfl⟩
                go_wp2
                go_roundw
                case rel => exact ⟨t + 1, _, (n + 1), _, by omega, by go_num, rfl, rfl, HO.out, HS.out, HK.out, HB.out⟩
                case measure => simp [intOf]; omega
        · by_cases hx2 : x = 2
          · subst hx2
            go_wp2_with fail
            refine (bell_tick _ ⟨l, d, (n : Int), aa, r, m⟩ _ HK0.out Hsm.out).mono ?_
            rintro e w2 ⟨rfl, hb', hk'⟩
            have HO2 := Lib.hid (own_keep HO.out hk' (by omega))
            have HB2 := Lib.hid (HB0.out.trans (hk'.below w.heap.size HB0.out.size (fun k e => by omega)))
            have HK2 := Lib.hid (show Blk w2 w.heap.size (BS.rung ⟨l, d, (n : Int), if 0 < (n : Int) then aa + 1 else aa, r, m⟩).cells 141 from hb')
            have HS := Lib.hid (show BSim l d (t + 1) ⟨l, d, (n : Int), if 0 < (n : Int) then aa + 1 else aa, r, m⟩ n (fun i => y i + 1) from HR.out.tick)
            have hnl := HR.out.len
            have Hage := Lib.hid HR.out.age
            clear hb' hk' HO
            have HF0 := Lib.hid (own_form HO2.out)
            obtain ⟨av0, cv0, rfl, hform0⟩ := HF0.out
            clear HF0
            go_wp2_with fail
            go_loopw [13] (fun i wr => ∃ kk : Nat, kk ≤ n ∧ i = .int .i64 kk ∧ wr.ownsRow (w.heap.size + 1) 3 1 (.slice av0 n cv0) n (agesOf n (fun i => if i < kk then y i + 1 else y i)) ∧ Blk wr w.heap.size (BS.rung ⟨l, d, (n : Int), if 0 < (n : Int) then aa + 1 else aa, r, m⟩).cells 141 ∧ Below w.heap.size w wr) (fun i _ => n - (intOf i).toNat)
            case atStart => exact ⟨0, Nat.zero_le _, rfl, by simpa using HO2.out, HK2.out, HB2.out⟩
            case round =>
              obtain ⟨kk, hkk, rfl, hown, hbk, hbl⟩ := hrel
              have HO3 := Lib.hid hown
              have HK3 := Lib.hid hbk
              have HB3 := Lib.hid hbl
              clear hown hbk hbl hform0
              by_cases hlt2 : kk < n
              · obtain ⟨av1, cv1, hv1, hform1⟩ := own_form HO3.out
                injection hv1 with e1 e2 e3
                subst e1 e3
                obtain ⟨g, rfl, hgB, hcells⟩ := hform1 (by omega)
                have hck := hcells kk hlt2
                rw [if_neg (Nat.lt_irrefl _)] at hck
                have hfr := HO3.out.frozenAt kk
                have hag := Hage.out kk hlt2
                have hag0 := hag.1
                have hag1 := hag.2
                have hst := HO3.out.stored kk (.int .i64 (y kk + 1))
                have HO4 := Lib.hid hst.1
                have HK4 := Lib.hid (HK3.out.setOther (a := ⟨g, kk, none⟩) (by simp only; omega) (.int .i64 (y kk + 1)))
                have HB4 := Lib.hid (HB3.out.setCell (p := ⟨g, kk, none⟩) (by simp only; omega) (.int .i64 (y kk + 1)))
                clear hcells hst hag HO3 HK3 HB3
                have HY := Lib.hid (rfl : y kk = y kk)
                go_wp2
                go_roundw
                case rel => exact ⟨kk + 1, by omega, by go_num, by
                  have := HO4.out
                  rw [agesOf_set] at this
                  have e : (fun i => if i = kk then y kk + 1 else if i < kk then y i + 1 else y i) = (fun i => if i < kk + 1 then y i + 1 else y i) := by
                    funext i
                    by_cases h1 : i = kk
                    · subst h1; simp
                    · by_cases h2 : i < kk
                      · simp [h1, h2, show i < kk + 1 by omega]
                      · simp [h1, h2, show ¬ i < kk + 1 by omega]
                  rw [e] at this
                  exact this, HK4.out, HB4.out⟩
                case measure => simp [intOf]; omega
              · obtain rfl : n = kk := by omega
                have HO := Lib.hid (show wr.ownsRow (w.heap.size + 1) 3 1 (.slice av0 n cv0) n (agesOf n (fun i => y i + 1)) by
                  have := HO3.out
                  have e : agesOf n (fun i => if i < n then y i + 1 else y i) = agesOf n (fun i => y i + 1) := by
                    unfold agesOf
                    apply List.map_congr_left
                    intro i hi
                    simp only [if_pos (List.mem_range.1 hi)]
                  rwa [e] at this)
                have HK := Lib.hid HK3.out
                have HB := Lib.hid HB3.out
                clear HO3 HK3 HB3
                generalize (fun i => y i + 1) = Y at HS HO
                generalize (if 0 < (n : Int) then aa + 1 else aa) = ab at HS HK
                have HF := Lib.hid (own_form HO.out)
                obtain ⟨av, cv, hv9, hform⟩ := HF.out
                injection hv9 with e1 e2 e3
                subst e1 e3
                have Hfm := Lib.hid hform
                clear hform HF
                cases hm1 : m with
                | true =>
                  subst hm1
                  have e : BS.rung ⟨l, d, (n : Int), ab, r, true⟩ = ⟨l, d, (n : Int), ab, r, true⟩ := if_neg (fun h => by cases h.1)
                  rw [e] at HK
                  clear e
                  go_wp2_with fail
                  refine (bell_rings _ _ _ HK.out).mono ?_
                  rintro e w' ⟨rfl, rfl⟩
                  go_wp2_with fail
                  refine (bell_waits _ _ _ HK.out).mono ?_
                  rintro e w' ⟨rfl, rfl⟩
                  go_wp2
                  go_roundw
                  case rel => exact ⟨t + 1, _, n, _, by omega, by go_num, rfl, rfl, HO.out, HS.out, HK.out, HB.out⟩
                  case measure => simp [intOf]; omega
                | false =>
                  subst hm1
                  by_cases hn0 : n = 0
                  · have e : BS.rung ⟨l, d, (n : Int), ab, r, false⟩ = ⟨l, d, (n : Int), ab, r, false⟩ := if_neg (fun h => by have h2 := h.2.1; simp only at h2; omega)
                    rw [e] at HK
                    clear e
                    have d0 : decide ((0 : Int) < (n : Int)) = false := decide_eq_false (by omega)
                    have d0' : decide (0 < n) = false := decide_eq_false (by omega)
                    clear hn0
                    go_wp2_with fail
                    refine (bell_rings _ _ _ HK.out).mono ?_
                    rintro e w' ⟨rfl, rfl⟩
                    go_wp2_with fail
                    refine (bell_waits _ _ _ HK.out).mono ?_
                    rintro e w' ⟨rfl, rfl⟩
                    go_wp2
                    go_roundw
                    case rel => exact ⟨t + 1, _, n, _, by omega, by go_num, rfl, rfl, HO.out, HS.out, HK.out, HB.out⟩
                    case measure => simp [intOf]; omega
                  · obtain ⟨g, rfl, hgB, hcells⟩ := Hfm.out (by omega)
                    have hc0 := hcells 0 (by omega)
                    have d0 : decide ((0 : Int) < (n : Int)) = true := decide_eq_true (by omega)
                    have d0' : decide (0 < n) = true := decide_eq_true (by omega)
                    have hae := HS.out.ha
                    simp only [if_neg hn0] at hae
                    generalize hy1 : Y 0 = y1 at hc0 hae
                    clear hy1
                    by_cases hr : l ≤ (n : Int) ∨ d ≤ y1
                    · have e : BS.rung ⟨l, d, (n : Int), ab, r, false⟩ = ⟨l, d, 0, 0, r + 1, false⟩ := by
                        unfold BS.rung
                        rw [if_pos (show _ ∧ _ ∧ _ from ⟨rfl, (by simp only; omega), (by simp only; omega)⟩)]
                      rw [e] at HK
                      clear e
                      have HS2 := Lib.hid (show BSim l d (t + 1) ⟨l, d, 0, 0, r + 1, false⟩ 0 (fun _ => 0) from ⟨rfl, rfl, rfl, rfl, fun i hi => by omega, by have := HS.out.r0; simp only at this ⊢; omega, by have := HR.out.r1; simp only at this ⊢; omega, by omega⟩)
                      have hrb := HR.out.r1
                      have hrb0 := HR.out.r0
                      simp only at hrb hrb0
                      by_cases hl : l ≤ (n : Int)
                      · have d1 : decide (l ≤ (n : Int)) = true := by simpa using hl
                        clear hr hl hcells hae
                        go_wp2_with fail
                        refine (bell_rings _ _ _ HK.out).mono ?_
                        rintro e w' ⟨rfl, rfl⟩
                        go_wp2_with fail
                        refine (bell_waits _ _ _ HK.out).mono ?_
                        rintro e w' ⟨rfl, rfl⟩
                        go_wp2
                        go_roundw
                        case rel => exact ⟨t + 1, _, 0, fun _ => 0, by omega, by go_num, rfl, rfl, World.ownsRow_nil _ _ _ _, HS2.out, HK.out, HB.out⟩
                        case measure => simp [intOf]; omega
                      · have d1 : decide (l ≤ (n : Int)) = false := by simpa using hl
                        have d2 : decide (d ≤ y1) = true := by simpa using hr.resolve_left hl
                        clear hr hl hcells hae
                        go_wp2_with fail
                        refine (bell_rings _ _ _ HK.out).mono ?_
                        rintro e w' ⟨rfl, rfl⟩
                        go_wp2_with fail
                        refine (bell_waits _ _ _ HK.out).mono ?_
                        rintro e w' ⟨rfl, rfl⟩
                        go_wp2
                        go_roundw
                        case rel => exact ⟨t + 1, _, 0, fun _ => 0, by omega, by go_num, rfl, rfl, World.ownsRow_nil _ _ _ _, HS2.out, HK.out, HB.out⟩
                        case measure => simp [intOf]; omega
                    · have e : BS.rung ⟨l, d, (n : Int), ab, r, false⟩ = ⟨l, d, (n : Int), ab, r, false⟩ := if_neg (by
                        rintro ⟨_, _, h⟩
                        apply hr
                        simp only at h
                        omega)
                      rw [e] at HK
                      clear e
                      have d1 : decide (l ≤ (n : Int)) = false := decide_eq_false (by omega)
                      have d2 : decide (d ≤ y1) = false := decide_eq_false (by omega)
                      clear hr hcells hae
                      go_wp2_with fail
                      refine (bell_rings _ _ _ HK.out).mono ?_
                      rintro e w' ⟨rfl, rfl⟩
                      go_wp2_with fail
                      refine (bell_waits _ _ _ HK.out).mono ?_
                      rintro e w' ⟨rfl, rfl⟩
                      go_wp2
                      go_roundw
                      case rel => exact ⟨t + 1, _, n, _, by omega, by go_num, rfl, rfl, HO.out, HS.out, HK.out, HB.out⟩
                      case measure => simp [intOf]; omega
          · by_cases hx3 : x = 3
            · subst hx3
              go_wp2_with fail
              refine (bell_mask _ ⟨l, d, (n : Int), aa, r, m⟩ true _ HK0.out Hsm.out).mono ?_
              rintro e w2 ⟨rfl, hb', hk'⟩
              have HO := Lib.hid (own_keep HO.out hk' (by omega))
              have HB := Lib.hid (HB0.out.trans (hk'.below w.heap.size HB0.out.size (fun k e => by omega)))
              have HK := Lib.hid (show Blk w2 w.heap.size (BS.rung ⟨l, d, (n : Int), aa, r, true⟩).cells 141 from hb')
              have HS := Lib.hid (show BSim l d (t + 1) ⟨l, d, (n : Int), aa, r, true⟩ n y from HR.out.mask true)
              clear hb' hk'
              have HF := Lib.hid (own_form HO.out)
              obtain ⟨av, cv, rfl, hform⟩ := HF.out
              have Hfm := Lib.hid hform
              clear hform HF
              have e : BS.rung ⟨l, d, (n : Int), aa, r, true⟩ = ⟨l, d, (n : Int), aa, r, true⟩ := if_neg (fun h => by cases h.1)
              rw [e] at HK
              clear e
              go_wp2_with fail
              refine (bell_rings _ _ _ HK.out).mono ?_
              rintro e w' ⟨rfl, rfl⟩
              go_wp2_with fail
              refine (bell_waits _ _ _ HK.out).mono ?_
              rintro e w' ⟨rfl, rfl⟩
              go_wp2
              go_roundw
              case rel => exact ⟨t + 1, _, n, _, by omega, by go_num, rfl, rfl, HO.out, HS.out, HK.out, HB.out⟩
              case measure => simp [intOf]; omega
            · have t1 : (x == 1) = false := by simpa using hx
              have t2 : (x == 2) = false := by simpa using hx2
              have t3 : (x == 3) = false := by simpa using hx3
              clear hx hx2 hx3
              go_wp2_with fail
              refine (bell_mask _ ⟨l, d, (n : Int), aa, r, m⟩ false _ HK0.out Hsm.out).mono ?_
              rintro e w2 ⟨rfl, hb', hk'⟩
              have HO := Lib.hid (own_keep HO.out hk' (by omega))
              have HB := Lib.hid (HB0.out.trans (hk'.below w.heap.size HB0.out.size (fun k e => by omega)))
              have HK := Lib.hid (show Blk w2 w.heap.size (BS.rung ⟨l, d, (n : Int), aa, r, false⟩).cells 141 from hb')
              have HS := Lib.hid (show BSim l d (t + 1) ⟨l, d, (n : Int), aa, r, false⟩ n y from HR.out.mask false)
              clear hb' hk'
              have HF := Lib.hid (own_form HO.out)
              obtain ⟨av, cv, rfl, hform⟩ := HF.out
              have Hfm := Lib.hid hform
              clear hform HF
              by_cases hn0 : n = 0
              · have e : BS.rung ⟨l, d, (n : Int), aa, r, false⟩ = ⟨l, d, (n : Int), aa, r, false⟩ := if_neg (fun h => by have h2 := h.2.1; simp only at h2; omega)
                rw [e] at HK
                clear e
                have d0 : decide ((0 : Int) < (n : Int)) = false := decide_eq_false (by omega)
                have d0' : decide (0 < n) = false := decide_eq_false (by omega)
                clear hn0
                go_wp2_with fail
                refine (bell_rings _ _ _ HK.out).mono ?_
                rintro e w' ⟨rfl, rfl⟩
                go_wp2_with fail
                refine (bell_waits _ _ _ HK.out).mono ?_
                rintro e w' ⟨rfl, rfl⟩
                go_wp2
                go_roundw
                case rel => exact ⟨t + 1, _, n, _, by omega, by go_num, rfl, rfl, HO.out, HS.out, HK.out, HB.out⟩
                case measure => simp [intOf]; omega
              · obtain ⟨g, rfl, hgB, hcells⟩ := Hfm.out (by omega)
                have hc0 := hcells 0 (by omega)
                have d0 : decide ((0 : Int) < (n : Int)) = true := decide_eq_true (by omega)
                have d0' : decide (0 < n) = true := decide_eq_true (by omega)
                have hae := HS.out.ha
                simp only [if_neg hn0] at hae
                generalize hy1 : y 0 = y1 at hc0 hae
                clear hy1
                by_cases hr : l ≤ (n : Int) ∨ d ≤ y1
                · have e : BS.rung ⟨l, d, (n : Int), aa, r, false⟩ = ⟨l, d, 0, 0, r + 1, false⟩ := by
                    unfold BS.rung
                    rw [if_pos (show _ ∧ _ ∧ _ from ⟨rfl, (by simp only; omega), (by simp only; omega)⟩)]
                  rw [e] at HK
                  clear e
                  have HS2 := Lib.hid (show BSim l d (t + 1) ⟨l, d, 0, 0, r + 1, false⟩ 0 (fun _ => 0) from ⟨rfl, rfl, rfl, rfl, fun i hi => by omega, by have := HS.out.r0; simp only at this ⊢; omega, by have := HR.out.r1; simp only at this ⊢; omega, by omega⟩)
                  have hrb := HR.out.r1
                  have hrb0 := HR.out.r0
                  simp only at hrb hrb0
                  by_cases hl : l ≤ (n : Int)
                  · have d1 : decide (l ≤ (n : Int)) = true := by simpa using hl
                    clear hr hl hcells hae
                    go_wp2_with fail
                    refine (bell_rings _ _ _ HK.out).mono ?_
                    rintro e w' ⟨rfl, rfl⟩
                    go_wp2_with fail
                    refine (bell_waits _ _ _ HK.out).mono ?_
                    rintro e w' ⟨rfl, rfl⟩
                    go_wp2
                    go_roundw
                    case rel => exact ⟨t + 1, _, 0, fun _ => 0, by omega, by go_num, rfl, rfl, World.ownsRow_nil _ _ _ _, HS2.out, HK.out, HB.out⟩
                    case measure => simp [intOf]; omega
                  · have d1 : decide (l ≤ (n : Int)) = false := by simpa using hl
                    have d2 : decide (d ≤ y1) = true := by simpa using hr.resolve_left hl
                    clear hr hl hcells hae
                    go_wp2_with fail
                    refine (bell_rings _ _ _ HK.out).mono ?_
                    rintro e w' ⟨rfl, rfl⟩
                    go_wp2_with fail
                    refine (bell_waits _ _ _ HK.out).mono ?_
                    rintro e w' ⟨rfl, rfl⟩
                    go_wp2
                    go_roundw
                    case rel => exact ⟨t + 1, _, 0, fun _ => 0, by omega, by go_num, rfl, rfl, World.ownsRow_nil _ _ _ _, HS2.out, HK.out, HB.out⟩
                    case measure => simp [intOf]; omega
                · have e : BS.rung ⟨l, d, (n : Int), aa, r, false⟩ = ⟨l, d, (n : Int), aa, r, false⟩ := if_neg (by
                    rintro ⟨_, _, h⟩
                    apply hr
                    simp only at h
                    omega)
                  rw [e] at HK
                  clear e
                  have d1 : decide (l ≤ (n : Int)) = false := decide_eq_false (by omega)
                  have d2 : decide (d ≤ y1) = false := decide_eq_false (by omega)
                  clear hr hcells hae
                  go_wp2_with fail
                  refine (bell_rings _ _ _ HK.out).mono ?_
                  rintro e w' ⟨rfl, rfl⟩
                  go_wp2_with fail
                  refine (bell_waits _ _ _ HK.out).mono ?_
                  rintro e w' ⟨rfl, rfl⟩
                  go_wp2
                  go_roundw
                  case rel => exact ⟨t + 1, _, n, _, by omega, by go_num, rfl, rfl, HO.out, HS.out, HK.out, HB.out⟩
                  case measure => simp [intOf]; omega
      · go_wp2
        go_ret
        exact ⟨rfl, HB0.out⟩
end Go.Proofs.YtkehhfgoikbciaaDoor
