/- granarylaw3.PickPlays returns true, and writes nothing that was there. -/
import Derived.Test.YtkehhfgoikbciaaDoorPickRefNext
import Derived.Test.YtkehhfgoikbciaaDoorTold
import Derived.Test.YtkehhfgoikbciaaDoorBase3
import Derived.Test.YtkehhfgoikbciaaDoorRd
import Derived.Laws.OwnMore
namespace Go.Proofs.YtkehhfgoikbciaaDoor
open Go.RowKit Go.Shelf
set_option linter.unusedVariables false

theorem RefAt.below0 {w w' : World} {rb b0 off0 n cap : Nat} {ws : Nat → Int} {k : Nat} {c : Int} (h : RefAt w rb b0 off0 n cap ws k c) (hb : Below w.heap.size w w') : RefAt w' rb b0 off0 n cap ws k c :=
  ⟨(hb.block rb h.blk.lt).trans h.blk, h.ne, Nat.lt_of_lt_of_le h.lt hb.size, fun i hi => (hb.cell (p := ⟨b0, off0 + i, none⟩) h.lt).trans (h.cell i hi)⟩
theorem RefAt.kept {w w' : World} {b rb b0 off0 n cap : Nat} {ws : Nat → Int} {k : Nat} {c : Int} (h : RefAt w rb b0 off0 n cap ws k c) (hk : Keep (· = b) w w') (h1 : rb ≠ b) (h2 : b0 ≠ b) : RefAt w' rb b0 off0 n cap ws k c :=
  h.below (hk.mono fun x _ e => ⟨fun q => h1 (q ▸ e), fun q => h2 (q ▸ e)⟩)
theorem PickAt.kept {w w' : World} {rb b g cap n : Nat} {ws : Nat → Int} {k : Nat} {c : Int} (h : PickAt w b g cap n ws k c) (hk : Keep (· = rb) w w') (h1 : b ≠ rb) (h2 : g ≠ rb) : PickAt w' b g cap n ws k c :=
  ⟨hk.blk h.blk h1, h.ne, Nat.lt_of_lt_of_le h.lt hk.size, fun i hi => (hk.cell (p := ⟨g, i, none⟩) h.lt h2).trans (h.cell i hi)⟩

/-- both players stand alike -/
structure Plays (w wr : World) (b g cap rb b0 off0 n cap0 : Nat) (z : Nat → Int) (k : Nat) (c : Int) : Prop where
  p : PickAt wr b g cap n z k c
  r : RefAt wr rb b0 off0 n cap0 z k c
  f : PickFit n z k c
  bel : Below w.heap.size w wr
  hb : w.heap.size ≤ b
  hg : w.heap.size ≤ g
  hrb : w.heap.size ≤ rb
  hb0 : b0 < w.heap.size
  ne1 : b ≠ rb
  ne2 : g ≠ rb
theorem Plays.below {w wr w' : World} {b g cap rb b0 off0 n cap0 : Nat} {z : Nat → Int} {k : Nat} {c : Int} (h : Plays w wr b g cap rb b0 off0 n cap0 z k c) (hb : Below wr.heap.size wr w') : Plays w w' b g cap rb b0 off0 n cap0 z k c :=
  ⟨h.p.below hb, h.r.below0 hb, h.f, h.bel.trans (hb.mono h.bel.size), h.hb, h.hg, h.hrb, h.hb0, h.ne1, h.ne2⟩

/-- one round's two turns: alike in error -/
def BothErr (n : Nat) (z : Nat → Int) (m : Nat) (code : Int) : Prop := m ≠ n ∧ code = 2 ∨ m = n ∧ (∃ i, i < n ∧ z i < 0) ∧ code = 1 ∨ m = n ∧ (∀ i, i < n → z i = 0) ∧ code = 4
theorem BothErr.unique {n m : Nat} {z : Nat → Int} {c c' : Int} (h : BothErr n z m c) (h' : BothErr n z m c') (hn : 0 < n) : c = c' := by
  rcases h with ⟨h1, rfl⟩ | ⟨h1, ⟨i, hi, h2⟩, rfl⟩ | ⟨h1, h2, rfl⟩ <;> rcases h' with ⟨g1, rfl⟩ | ⟨g1, ⟨i', hi', g2⟩, rfl⟩ | ⟨g1, g2, rfl⟩ <;> first | rfl | (exfalso; omega) | (exfalso; have := h2 i' hi'; omega) | (exfalso; have := g2 i hi; omega)
theorem BothErr.not {n m : Nat} {z : Nat → Int} {c : Int} (h : BothErr n z m c) (h1 : m = n) (h2 : ∀ i, i < n → 0 ≤ z i) (h3 : ∃ i, i < n ∧ 0 < z i) : False := by
  obtain ⟨j, hj, hpos⟩ := h3
  rcases h with ⟨g1, rfl⟩ | ⟨g1, ⟨i, hi, g2⟩, rfl⟩ | ⟨g1, g2, rfl⟩
  · exact g1 h1
  · have := h2 i hi; omega
  · have := g2 j hj; omega
theorem BothErr.pos {n m : Nat} {z : Nat → Int} {c : Int} (h : BothErr n z m c) : 0 < c := by
  rcases h with ⟨_, rfl⟩ | ⟨_, _, rfl⟩ | ⟨_, _, rfl⟩ <;> omega

theorem fault_new {n : Nat} {z : Nat → Int} {c c' : Int} (h : n = 0 ∧ c = 2 ∨ 8 < n ∧ c = 3 ∨ 0 < n ∧ n ≤ 8 ∧ (∃ i, i < n ∧ (z i < 1 ∨ 16 < z i)) ∧ c = 1)
    (h' : n = 0 ∧ c' = 2 ∨ 8 < n ∧ c' = 3 ∨ 0 < n ∧ n ≤ 8 ∧ (∃ i, i < n ∧ (z i < 1 ∨ 16 < z i)) ∧ c' = 1 ∨ 0 < n ∧ n ≤ 8 ∧ (∀ i, i < n → 1 ≤ z i ∧ z i ≤ 16) ∧ c' = 0) : c = c' ∧ 0 < c := by
  rcases h with ⟨h1, rfl⟩ | ⟨h1, rfl⟩ | ⟨h1, h2, ⟨i, hi, h3⟩, rfl⟩ <;> rcases h' with ⟨g1, rfl⟩ | ⟨g1, rfl⟩ | ⟨g1, g2, ⟨i', hi', g3⟩, rfl⟩ | ⟨g1, g2, g3, rfl⟩ <;> first | exact ⟨rfl, by omega⟩ | (exfalso; omega) | (exfalso; have := g3 i hi; omega)
theorem fault_ok {n : Nat} {z : Nat → Int} {c : Int} (hf : PickFit n z 0 (z 0))
    (h : n = 0 ∧ c = 2 ∨ 8 < n ∧ c = 3 ∨ 0 < n ∧ n ≤ 8 ∧ (∃ i, i < n ∧ (z i < 1 ∨ 16 < z i)) ∧ c = 1 ∨ 0 < n ∧ n ≤ 8 ∧ (∀ i, i < n → 1 ≤ z i ∧ z i ≤ 16) ∧ c = 0) : c = 0 := by
  obtain ⟨f1, f2, f3, f4, f5, f6⟩ := hf
  rcases h with ⟨h1, rfl⟩ | ⟨h1, rfl⟩ | ⟨h1, h2, ⟨i, hi, h3⟩, rfl⟩ | ⟨h1, h2, h3, rfl⟩
  · omega
  · omega
  · have := f3 i hi; omega
  · rfl

set_option maxRecDepth 100000 in
set_option maxHeartbeats 4000000 in
theorem pickPlays_walk (w : World) (hg : Laid w) (a0 : Option Addr) (len0 cap0 : Nat) (z0 : List Int) (hz0 : IsRow .i64 8 w a0 len0 cap0 z0)
    (a1 : Option Addr) (len1 cap1 : Nat) (A : Nat → Option Addr) (L C : Nat → Nat) (Z : Nat → Nat → Int) (hz1 : IsRows w a1 len1 A L C Z) :
    Calls Tryd.prog 12 #[.slice a0 len0 cap0, .slice a1 len1 cap1] w fun e w' => e = .returned (.bool true) ∧ Below w.heap.size w w' := by
  obtain ⟨i0, hi, hzz, hz1', hz2⟩ := info_parts (P := Tryd.prog) (e := 3) (z := .int .i64 0) (size := 1) (bytes := 8) (by kernel_rfl)
  have HZ0 := Lib.hid hz0.rowAt
  have HZ1 := Lib.hid hz1
  have hl1 : len1 * 24 ≤ 140737488351232 := by
    rcases hz1 with h | ⟨_, _, _, h, _⟩ <;> omega
  have hl0 : len0 * 8 ≤ 140737488351232 := by
    rcases hz0 with ⟨_, h, _⟩ | ⟨_, _, h1, h2, _⟩ <;> omega
  have hnone : a0 = none → len0 = 0 ∧ cap0 = 0 := fun e => by
    rcases hz0 with ⟨_, h, h', _⟩ | ⟨_, h, _⟩
    · exact ⟨h, h'⟩
    · rw [e] at h; cases h
  generalize hz : (fun i => z0.getD i 0) = z at HZ0
  have HG := Lib.hid hg
  have hpos := hg.pos
  clear hz0 hz1 hz z0 hg
  go_enter Tryd.func12, Tryd.ntmps12
  go_wp2_with (at_builtin; refine wpList_append_any rfl _ _ 30 rfl w.heap.size 3 i0 (.int .i64 0) 1 8 Tryd.underlying30 hi hzz hz1' hz2 rfl (by decide) _ _ _ rfl (World.ownsRow_made w #[] 0 (Nat.le_refl _) (Nat.zero_le _) rfl) a0 len0 cap0 ((List.range len0).map fun i => Value.int .i64 (z i)) rfl ?qc0 ?qc1 ?qc2 ?qc3 ?qc4 ?qc5 ?qc6 ?_)
  case qc0 => exact hnone
  case qc1 => simp
  case qc2 =>
    intro b hb j u hj
    have hjn : j < len0 := by
      have := (List.getElem?_eq_some_iff.1 hj).1
      simpa using this
    obtain ⟨_, _, h | ⟨b', off, hA, hlt, hc⟩⟩ := HZ0.out
    · omega
    · rw [hA] at hb
      cases hb
      refine Lib.cell?_alloc_some _ ?_
      rw [WideShapes.add_plain, hc j hjn]
      simpa [hjn] using hj
  case qc3 => intro u hu; obtain ⟨x, _, rfl⟩ := List.mem_map.1 hu; rfl
  case qc4 => unfold maxLen; omega
  case qc5 => omega
  case qc6 => simp
  intro v' w1 hown hgrow _
  have hB1 : Below w.heap.size w w1 := ((Below.refl _ w).alloc (Nat.le_refl _) _).grown hgrow (by simp) (by intro k hk; simp [Value.ownBlock] at hk; omega)
  have hown : w1.ownsRow w.heap.size 3 1 v' len0 ((List.range len0).map fun i => Value.int .i64 (z i)) := by simpa using hown
  obtain ⟨av, cv, rfl, hrow, hblk⟩ := rowAt_own hown HZ0.out.1 HZ0.out.2.1
  have HB1 := Lib.hid hB1
  have HR1 := Lib.hid hrow
  have Hb1 := Lib.hid hblk
  have HZ2 := Lib.hid (HZ0.out.below hB1)
  clear hB1 hown hgrow hrow hblk hnone hi hzz hz1' hz2
  go_wp2_with fail
  refine (new_any av len0 cv z _ HR1.out).mono ?_
  rintro e w2 (⟨code, hcode, rfl, rfl⟩ | ⟨b, g, cap, rfl, hb, hg, hp, hf, hB2⟩)
  · have HC := Lib.hid hcode
    clear hcode
    go_wp2_with fail
    refine (fault_any a0 len0 cap0 z _ HZ2.out).mono ?_
    rintro e w' ⟨code', hcode', rfl, rfl⟩
    obtain ⟨rfl, hcpos⟩ := fault_new HC.out hcode'
    clear hcode'
    have hne : (code != 0) = true := by simp; omega
    go_wp2_with fail
    refine (error_hit code code _ (HG.out.below hpos HB1.out)).mono ?_
    rintro e w3 ⟨rfl, hb3⟩
    have HB3 := Lib.hid (HB1.out.trans (hb3.mono HB1.out.size))
    clear hb3
    go_wp2
    go_ret
    exact ⟨by simp, HB3.out⟩
  · have hs1 := HB1.out.size
    have HB2 := Lib.hid (HB1.out.trans (hB2.mono hs1))
    have n0 := hf.n0
    have n8 := hf.n8
    have HZ3 := Lib.hid (HZ0.out.below HB2.out)
    have Hp := Lib.hid hp
    have Hf := Lib.hid hf
    obtain ⟨gw, cur, rfl, hgw, hgwb, hcur⟩ := Hb1.out n0
    have hgwb2 : Blk w2 gw cur 3 := (hB2.block gw hgwb.lt).trans hgwb
    have hgw1 := hgwb.lt
    have HW := Lib.hid hgwb2
    have hbw : b ≠ gw := by omega
    have hgw2 : g ≠ gw := by omega
    have hbB : w.heap.size ≤ b := by omega
    have hgB : w.heap.size ≤ g := by omega
    clear hB2 hp hf hgwb hgwb2 Hb1 HB1 HR1 HZ2 hb hg hs1 hgw1
    go_wp2_with fail
    refine (fault_any a0 len0 cap0 z _ HZ3.out).mono ?_
    rintro e w' ⟨code', hcode', rfl, rfl⟩
    obtain rfl := fault_ok Hf.out hcode'
    clear hcode' HZ3
    go_wp2_with fail
    refine (error_nil 0 _).mono ?_
    rintro e w' ⟨rfl, rfl⟩
    go_wp2_with fail
    go_loopw [10] (fun i wr => ∃ (t : Nat) (cur' : Array Value), t ≤ len0 ∧ i = .int .i64 t ∧ cur'.size = cur.size ∧ Blk wr gw cur' 3 ∧ PickAt wr b g cap len0 z 0 (z 0) ∧ Below w.heap.size w wr) (fun i _ => len0 - (intOf i).toNat)
    case atStart => exact ⟨0, cur, Nat.zero_le _, rfl, rfl, HW.out, Hp.out, HB2.out⟩
    case round =>
      obtain ⟨t, cur', ht, rfl, hsz, hW, hP, hB⟩ := hrel
      by_cases hlt : t < len0
      · have hc : wr.cell? ⟨gw, t, none⟩ = some (cur'[t]'(by omega)) := by rw [hW.cell]; simp
        have hf0 : wr.frozen? ⟨gw, t, none⟩ = false := hW.free t
        have HW2 := Lib.hid (hW.set t (.int .i64 1))
        have HP2 := Lib.hid (show PickAt (wr.setCell ⟨gw, t, none⟩ (.int .i64 1)) b g cap len0 z 0 (z 0) from ⟨hP.blk.setOther (by simpa using hbw.symm) _, hP.ne, by simpa using hP.lt, fun i' hi' => by
          have := hP.cell i' hi'
          simpa [World.cell?_setCell_other, hgw2, hgw2.symm, hbw.symm] using this⟩)
        have HB3 := Lib.hid (hB.setCell (p := ⟨gw, t, none⟩) (by simpa using hgw) (.int .i64 1))
        have HSZ := Lib.hid hsz
        generalize cur'[t]'_ = old at hc
        clear hW hP hB hsz
        go_wp2
        go_roundw
        case rel => exact ⟨t + 1, _, by omega, by go_num, by rw [Array.size_setIfInBounds]; exact HSZ.out, HW2.out, HP2.out, HB3.out⟩
        case measure => simp [intOf]; omega
      · obtain rfl : len0 = t := by omega
        have HP2 := Lib.hid hP
        have HB3 := Lib.hid hB
        obtain ⟨b0, off0, rfl, hb0, hc0⟩ := HZ0.out.2.2.resolve_left (by omega)
        have hcz := (hB.cell (p := ⟨b0, off0 + 0, none⟩) hb0).trans (hc0 0 n0)
        rw [Nat.add_zero] at hcz
        have HC0 := Lib.hid hc0
        have hsB := hB.size
        have hPb := hP.blk.lt
        have hPg := hP.lt
        have HPL := Lib.hid (show Plays w (wr.alloc (.cells #[.slice (some ⟨b0, off0, none⟩) len0 cap0, .int .i64 0, .int .i64 (z 0)] 109)) b g cap wr.heap.size b0 off0 len0 cap0 z 0 (z 0) from
          ⟨hP.below ((Below.refl _ _).alloc (Nat.le_refl _) _), ⟨Blk.new _ _ _, by omega, by simp; omega, fun i hi => by
            rw [World.cell?_alloc_lt _ _ _ (by simp only; omega)]
            exact (hB.cell (p := ⟨b0, off0 + i, none⟩) hb0).trans (hc0 i hi)⟩, Hf.out, hB.alloc hsB _, hbB, hgB, hsB, hb0, by omega, by omega⟩)
        clear hW hP hB hsz hc0 hPb hPg HZ0 HW Hp Hf HB2 HP2
        go_wp2_with fail
        generalize (wr.alloc (.cells #[.slice (some ⟨b0, off0, none⟩) len0 cap0, .int .i64 0, .int .i64 (z 0)] 109)) = w6 at HPL ⊢
        generalize wr.heap.size = rb at HPL ⊢
        clear hsB hcz HB3
        go_loopw [12] (fun i wr => ∃ (t k : Nat) (c : Int), t ≤ len1 ∧ i = .int .i64 t ∧ Plays w wr b g cap rb b0 off0 len0 cap0 z k c) (fun i _ => len1 - (intOf i).toNat)
        case atStart => exact ⟨0, 0, z 0, Nat.zero_le _, rfl, HPL.out⟩
        case round =>
          obtain ⟨t, k, c, ht, rfl, hP⟩ := hrel
          have HP := Lib.hid hP
          clear hP HPL
          by_cases hlt : t < len1
          · obtain ⟨b1, off1, rfl, _, hb1, hr⟩ := HZ1.out.resolve_left (by omega)
            obtain ⟨hcell, hrow⟩ := hr t hlt
            have hc := (HP.out.bel.cell (p := ⟨b1, off1 + t, none⟩) hb1).trans hcell
            have Hcell := Lib.hid hcell
            have Hrow := Lib.hid hrow
            have hadd : ∀ B, w.heap.size ≤ B → 0 < L t → ∀ x, A t = some x → x.block ≠ B := fun B hB h0 x hx => by
              obtain ⟨_, _, h | ⟨b', off', hA, hlt', _⟩⟩ := hrow
              · omega
              · rw [hA] at hx
                cases hx
                simp only
                omega
            have N1 := Lib.hid (next_any b g cap len0 z k c (A t) (L t) (C t) (Z t) wr HP.out.p HP.out.f (hrow.below HP.out.bel) (hadd b HP.out.hb))
            have Hadd := Lib.hid hadd
            clear hcell hrow hr HZ1 hadd
            generalize A t = At at *
            generalize L t = Lt at *
            generalize C t = Ct at *
            generalize Z t = Zt at *
            go_wp2_with fail
            refine N1.out.mono ?_
            rintro e w7 (⟨code, hcode, rfl, hp, hk⟩ | ⟨hm, hnn, j, c', hst, rfl, hp, hk⟩)
            · have hB7 := HP.out.bel.trans (hk.below w.heap.size HP.out.bel.size (fun k' e => by have := HP.out.hb; omega))
              have hr7 := HP.out.r.kept hk HP.out.ne1.symm (by have := HP.out.hb0; have := HP.out.hb; omega)
              have hc7 := (hB7.cell (p := ⟨b1, off1 + t, none⟩) hb1).trans Hcell.out
              have N2 := Lib.hid (ref_next rb b0 off0 len0 cap0 z k c At Lt Ct Zt w7 hr7 HP.out.f (Hrow.out.below hB7) (Hadd.out rb HP.out.hrb))
              have H7 := Lib.hid (show Plays w w7 b g cap rb b0 off0 len0 cap0 z k c from ⟨hp, hr7, HP.out.f, hB7, HP.out.hb, HP.out.hg, HP.out.hrb, HP.out.hb0, HP.out.ne1, HP.out.ne2⟩)
              have HC := Lib.hid (show BothErr len0 Zt Lt code from hcode)
              clear hB7 hr7 hp hk hcode N1 hc
              go_wp2_with fail
              refine N2.out.mono ?_
              rintro e w8 (⟨code', hcode', rfl, rfl⟩ | ⟨hm, hnn, hpp, j, c', hst, rfl, hp, hk⟩)
              · obtain rfl := HC.out.unique (show BothErr len0 Zt Lt code' from hcode') n0
                clear hcode'
                have hcp := HC.out.pos
                go_wp2_with fail
                refine (error_hit code code _ (HG.out.below hpos H7.out.bel)).mono ?_
                rintro e w9 ⟨rfl, hb9⟩
                have H9 := Lib.hid (H7.out.below hb9)
                clear hb9
                go_wp2
                go_roundw
                case rel => exact ⟨t + 1, k, c, by omega, by go_num, H9.out⟩
                case measure => simp [intOf]; omega
              · exact (HC.out.not hm hnn hpp).elim
            · have hB7 := HP.out.bel.trans (hk.below w.heap.size HP.out.bel.size (fun k' e => by have := HP.out.hb; omega))
              have hr7 := HP.out.r.kept hk HP.out.ne1.symm (by have := HP.out.hb0; have := HP.out.hb; omega)
              have hc7 := (hB7.cell (p := ⟨b1, off1 + t, none⟩) hb1).trans Hcell.out
              have N2 := Lib.hid (ref_next rb b0 off0 len0 cap0 z k c At Lt Ct Zt w7 hr7 HP.out.f (Hrow.out.below hB7) (Hadd.out rb HP.out.hrb))
              have HS := Lib.hid hst
              have HB7 := Lib.hid hB7
              have Hp7 := Lib.hid hp
              have Hm := Lib.hid hm
              have Hnn := Lib.hid hnn
              clear hB7 hr7 hp hk hst N1 hc hm hnn
              go_wp2_with fail
              refine N2.out.mono ?_
              rintro e w8 (⟨code', hcode', rfl, rfl⟩ | ⟨hm, hnn, hpp, j', c'', hst, rfl, hp, hk⟩)
              · exfalso
                have hj := HS.out.fit HP.out.f
                exact BothErr.not (show BothErr len0 Zt Lt code' from hcode') Hm.out Hnn.out ⟨j, hj.1.kn, hj.2⟩
              · obtain ⟨rfl, rfl⟩ := HS.out.unique hst
                have hfit := (hst.fit HP.out.f).1
                have H8 := Lib.hid (show Plays w w8 b g cap rb b0 off0 len0 cap0 z j c' from ⟨Hp7.out.kept hk HP.out.ne1 HP.out.ne2, hp, hfit, HB7.out.trans (hk.below w.heap.size HB7.out.size (fun k' e => by have := HP.out.hrb; omega)), HP.out.hb, HP.out.hg, HP.out.hrb, HP.out.hb0, HP.out.ne1, HP.out.ne2⟩)
                clear hm hnn hpp hst hp hk hfit
                go_wp2_with fail
                refine (error_nil 0 _).mono ?_
                rintro e w' ⟨rfl, rfl⟩
                go_wp2
                go_roundw
                case rel => exact ⟨t + 1, j, c', by omega, by go_num, H8.out⟩
                case measure => simp [intOf]; omega
          · go_wp2
            go_ret
            exact ⟨rfl, HP.out.bel⟩
end Go.Proofs.YtkehhfgoikbciaaDoor
