/- The reference's picker: its turn. -/
import Derived.Test.YtkehhfgoikbciaaDoorPickRef
namespace Go.Proofs.YtkehhfgoikbciaaDoor
open Go.RowKit Go.Shelf
set_option linter.unusedVariables false

theorem cyc_step (k n t : Nat) : (cyc k n t + 1) % n = cyc k n (t + 1) := by
  unfold cyc
  rw [Nat.mod_add_mod]
  congr 1

set_option maxRecDepth 100000 in
set_option maxHeartbeats 4000000 in
theorem ref_next (rb b0 off0 n cap : Nat) (ws : Nat → Int) (k : Nat) (c : Int) (a : Option Addr) (m mc : Nat) (z : Nat → Int) (w : World) (hr : RefAt w rb b0 off0 n cap ws k c) (hf : PickFit n ws k c) (hz : RowAt w a m z)
    (hne : 0 < m → ∀ x, a = some x → x.block ≠ rb) :
    Calls Tryd.prog 58 #[.pointer (some ⟨rb, 0, none⟩), .slice a m mc] w (RefPost rb b0 off0 n cap ws z m k c w) := by
  have hm : m ≤ 9223372036854775807 := by have := hz.1; unfold maxLen at this; omega
  obtain ⟨f1, f2, f3, f4, f5, f6⟩ := hf
  have HR := Lib.hid hr
  have hcc0 := hr.c0
  clear hr
  by_cases hmn : m = n
  · subst hmn
    obtain ⟨_, _, h | ⟨bz, off, rfl, hlt, hc⟩⟩ := hz
    · omega
    have hzb : bz ≠ rb := hne f1 _ rfl
    have hlt0 : bz < w.heap.size := hlt
    have Hc := Lib.hid hc
    have Hw := Lib.hid f3
    clear hc hne f3
    go_enter Tryd.func58, Tryd.ntmps58
    go_wp2
    clear hcc0
    go_loop [6, 7] (fun s i => ∃ t : Nat, t ≤ m ∧ i = .int .i64 t ∧ s = .bool (posB z t) ∧ ∀ i, i < t → 0 ≤ z i) (fun _ i => m - (intOf i).toNat)
    case atStart => exact ⟨0, Nat.zero_le _, rfl, rfl, fun i hi => by omega⟩
    case round =>
      obtain ⟨t, ht, rfl, rfl, hg⟩ := hrel
      have HG := Lib.hid hg
      clear hg
      by_cases hlt : t < m
      · have hct := Hc.out t hlt
        have hsucc : posB z (t + 1) = (posB z t || decide (0 < z t)) := rfl
        have HS := Lib.hid hsucc
        clear hsucc
        by_cases h1 : z t < 0
        · have d1 : decide (z t < 0) = true := by simpa using h1
          have H1 := Lib.hid h1
          clear h1
          go_wp2
          go_ret2
          exact .inl ⟨1, .inr (.inl ⟨rfl, ⟨t, hlt, H1.out⟩, rfl⟩), rfl, rfl⟩
        · have d1 : decide (z t < 0) = false := by simpa using h1
          have H1 := Lib.hid h1
          clear h1
          cases hp : posB z t with
          | true =>
            have HP := Lib.hid hp
            clear hp
            go_wp2
            go_round
            case rel => exact ⟨t + 1, by omega, by go_num, by rw [HS.out, HP.out]; rfl, fun i hi => by
              by_cases e : i = t
              · subst e; have := H1.out; omega
              · exact HG.out i (by omega)⟩
            case measure => simp [intOf]; omega
          | false =>
            have HP := Lib.hid hp
            clear hp
            go_wp2
            go_round
            case rel => exact ⟨t + 1, by omega, by go_num, by rw [HS.out, HP.out]; simp, fun i hi => by
              by_cases e : i = t
              · subst e; have := H1.out; omega
              · exact HG.out i (by omega)⟩
            case measure => simp [intOf]; omega
      · obtain rfl : m = t := by omega
        cases hp : posB z m with
        | false =>
          have HP := Lib.hid hp
          clear hp
          go_wp2
          go_ret2
          refine .inl ⟨4, .inr (.inr ⟨rfl, fun i hi => ?_, rfl⟩), rfl, rfl⟩
          have h0 := HG.out i hi
          by_cases h1 : 0 < z i
          · have := posB_iff.2 ⟨i, hi, h1⟩
            rw [HP.out] at this; cases this
          · omega
        | true =>
          have HP := Lib.hid (posB_iff.1 hp)
          clear hp
          have e1 := HR.out.c1
          have e2 := HR.out.c2
          have hck := Hc.out k f4
          have hz0 := HG.out k f4
          by_cases hst : 0 < c ∧ 0 < z k
          · obtain ⟨g1, g2⟩ := hst
            have d1 : (c == 0) = false := by simp; omega
            have d2 : (z k == 0) = false := by simp; omega
            have fr : w.frozen? ⟨rb, 2, none⟩ = false := HR.out.blk.free 2
            go_wp2
            go_ret2
            exact .inr ⟨rfl, HG.out, HP.out, k, c - 1, .inl ⟨g2, g1, rfl, rfl⟩, rfl, HR.out.credit (c - 1), (Keep.refl (· = rb) _).setCell (.inl rfl) _⟩
          · have hturn : z k = 0 ∨ c = 0 := by
              by_cases q : c = 0
              · exact .inr q
              · left
                have : 0 < c := by omega
                by_cases q2 : 0 < z k
                · exact absurd ⟨this, q2⟩ hst
                · omega
            have HT := Lib.hid hturn
            have s0 : IntKind.i64.wrap ((k : Int) + 1) = (k : Int) + 1 := IntWalk.i64_in _ (by omega)
            have fr1 : w.frozen? ⟨rb, 1, none⟩ = false := HR.out.blk.free 1
            have e0 := HR.out.c0
            have hmz : ((m : Int) == 0) = false := by simp; omega
            have hcy := cyc_cast k m 0
            simp only [Int.natCast_zero, Int.add_zero] at hcy
            have HCY := Lib.hid hcy
            clear hst hcy hturn
            by_cases hc0 : c = 0
            · have d1 : (c == 0) = true := by simpa using hc0
              clear hc0
              go_wp2_with fail
              have HR1 := Lib.hid (show RefAt (w.setCell ⟨rb, 1, none⟩ (.int .i64 (((k : Int) + 1) % (m : Int)))) rb b0 off0 m cap ws (cyc k m 0) c by rw [← HCY.out]; exact HR.out.step _)
              have HK1 := Lib.hid (show Keep (· = rb) w (w.setCell ⟨rb, 1, none⟩ (.int .i64 (((k : Int) + 1) % (m : Int)))) from (Keep.refl (· = rb) _).setCell (.inl rfl) _)
              clear s0 fr1 e0 e1 e2 hck
              go_loopg [] m (fun g wr => ∃ t : Nat, t < m ∧ g = m - t ∧ RefAt wr rb b0 off0 m cap ws (cyc k m t) c ∧ Keep (· = rb) w wr ∧ ∀ i, i < t → z (cyc k m i) ≤ 0)
              case atStart => exact ⟨0, f1, rfl, HR1.out, HK1.out, fun i hi => by omega⟩
              case round =>
                obtain ⟨t, ht, rfl, hR, hK, hall⟩ := hrel
                have HR2 := Lib.hid hR
                have HK2 := Lib.hid hK
                have HA := Lib.hid hall
                have hcl : cyc k m t < m := Nat.mod_lt _ f1
                have e0 := HR2.out.c0
                have e1 := HR2.out.c1
                have e2 := HR2.out.c2
                have fr1 : wr.frozen? ⟨rb, 1, none⟩ = false := HR2.out.blk.free 1
                have fr2 : wr.frozen? ⟨rb, 2, none⟩ = false := HR2.out.blk.free 2
                have hcz := (HK2.out.cell (p := ⟨bz, off + cyc k m t, none⟩) hlt0 (by simpa using hzb)).trans (Hc.out _ hcl)
                have hwj := HR2.out.cell _ hcl
                have hw1 := (Hw.out _ hcl).1
                have hw2 := (Hw.out _ hcl).2
                have hst2 := cyc_step k m t
                have HST := Lib.hid hst2
                have hz1 := HG.out _ hcl
                clear hR hK hall hst2 HR1 HK1
                by_cases hzt : z (cyc k m t) = 0
                · have ht2 : t + 1 < m := by
                    rcases Nat.lt_or_ge (t + 1) m with q | q
                    · exact q
                    · exfalso
                      obtain ⟨i, hi, hpos⟩ := HP.out
                      obtain ⟨i', hi', rfl⟩ := cyc_onto k m i f4 hi
                      by_cases e : i' = t
                      · subst e; omega
                      · have := HA.out i' (by omega); omega
                  have HA2 := Lib.hid (show ∀ i, i < t + 1 → z (cyc k m i) ≤ 0 from fun i hi => by
                    by_cases e : i = t
                    · subst e; omega
                    · exact HA.out i (by omega))
                  have d3 : (z (cyc k m t) == 0) = true := by simpa using hzt
                  have HR3 := Lib.hid (show RefAt (wr.setCell ⟨rb, 1, none⟩ (.int .i64 ((((cyc k m t : Nat) : Int) + 1) % (m : Int)))) rb b0 off0 m cap ws (cyc k m (t + 1)) c by
                    have e : (((cyc k m t : Nat) : Int) + 1) % (m : Int) = ((cyc k m (t + 1) : Nat) : Int) := by rw [← HST.out]; simp
                    rw [e]
                    exact HR2.out.step (cyc k m (t + 1)))
                  have s1 : IntKind.i64.wrap (((cyc k m t : Nat) : Int) + 1) = ((cyc k m t : Nat) : Int) + 1 := IntWalk.i64_in _ (by omega)
                  clear hzt HR2 HA
                  generalize hcv : cyc k m t = cv at *
                  have HCV := Lib.hid hcv
                  clear hcv
                  go_wp2
                  go_roundg (m - (t + 1))
                  case rel => exact ⟨t + 1, by omega, rfl, HR3.out, HK2.out.setCell (.inl rfl) _, HA2.out⟩
                  case measure => omega
                · have d3 : (z (cyc k m t) == 0) = false := by simpa using hzt
                  have HN := Lib.hid (show NextStep z ws m k c (cyc k m t) (ws (cyc k m t) - 1) from .inr ⟨HT.out, ⟨t, ht, rfl, by omega, HA.out⟩, rfl⟩)
                  clear hzt HA HST
                  generalize cyc k m t = cv at *
                  generalize hwv : ws cv = wv at *
                  have HWV := Lib.hid hwv
                  clear hwv
                  go_wp2_with fail
                  refine wp_still_tail 13 (by kernel_rfl) (by kernel_rfl) ?_
                  intro W hW
                  have HR4 := Lib.hid (show RefAt W rb b0 off0 m cap ws cv c by subst hW; exact HR2.out.drew)
                  have HK4 := Lib.hid (show Keep (· = rb) w W by subst hW; exact HK2.out.drew)
                  clear hW e0 e1 e2 fr1 fr2 hcz hwj HR2 HK2
                  have e0 := HR4.out.c0
                  have e1 := HR4.out.c1
                  have e2 := HR4.out.c2
                  have fr2 : W.frozen? ⟨rb, 2, none⟩ = false := HR4.out.blk.free 2
                  have hwj := HR4.out.cell cv hcl
                  rw [HWV.out] at hwj
                  simp only [List.take_succ_cons, List.take_zero, List.drop_succ_cons, List.drop_zero]
                  repeat still_step
                  refine wpStill_nil ?_
                  go_wp2
                  go_ret2
                  exact .inr ⟨rfl, HG.out, HP.out, cv, wv - 1, HN.out, rfl, by simpa using (HR4.out.credit wv).credit (wv - 1), ((HK4.out.setCell (.inl rfl) _).setCell (.inl rfl) _)⟩
            · have d1 : (c == 0) = false := by simpa using hc0
              have d2 : (z k == 0) = true := by have := HT.out.resolve_right hc0; simpa using this
              clear hc0
              go_wp2_with fail
              have HR1 := Lib.hid (show RefAt (w.setCell ⟨rb, 1, none⟩ (.int .i64 (((k : Int) + 1) % (m : Int)))) rb b0 off0 m cap ws (cyc k m 0) c by rw [← HCY.out]; exact HR.out.step _)
              have HK1 := Lib.hid (show Keep (· = rb) w (w.setCell ⟨rb, 1, none⟩ (.int .i64 (((k : Int) + 1) % (m : Int)))) from (Keep.refl (· = rb) _).setCell (.inl rfl) _)
              clear s0 fr1 e0 e1 e2 hck
              go_loopg [] m (fun g wr => ∃ t : Nat, t < m ∧ g = m - t ∧ RefAt wr rb b0 off0 m cap ws (cyc k m t) c ∧ Keep (· = rb) w wr ∧ ∀ i, i < t → z (cyc k m i) ≤ 0)
              case atStart => exact ⟨0, f1, rfl, HR1.out, HK1.out, fun i hi => by omega⟩
              case round =>
                obtain ⟨t, ht, rfl, hR, hK, hall⟩ := hrel
                have HR2 := Lib.hid hR
                have HK2 := Lib.hid hK
                have HA := Lib.hid hall
                have hcl : cyc k m t < m := Nat.mod_lt _ f1
                have e0 := HR2.out.c0
                have e1 := HR2.out.c1
                have e2 := HR2.out.c2
                have fr1 : wr.frozen? ⟨rb, 1, none⟩ = false := HR2.out.blk.free 1
                have fr2 : wr.frozen? ⟨rb, 2, none⟩ = false := HR2.out.blk.free 2
                have hcz := (HK2.out.cell (p := ⟨bz, off + cyc k m t, none⟩) hlt0 (by simpa using hzb)).trans (Hc.out _ hcl)
                have hwj := HR2.out.cell _ hcl
                have hw1 := (Hw.out _ hcl).1
                have hw2 := (Hw.out _ hcl).2
                have hst2 := cyc_step k m t
                have HST := Lib.hid hst2
                have hz1 := HG.out _ hcl
                clear hR hK hall hst2 HR1 HK1
                by_cases hzt : z (cyc k m t) = 0
                · have ht2 : t + 1 < m := by
                    rcases Nat.lt_or_ge (t + 1) m with q | q
                    · exact q
                    · exfalso
                      obtain ⟨i, hi, hpos⟩ := HP.out
                      obtain ⟨i', hi', rfl⟩ := cyc_onto k m i f4 hi
                      by_cases e : i' = t
                      · subst e; omega
                      · have := HA.out i' (by omega); omega
                  have HA2 := Lib.hid (show ∀ i, i < t + 1 → z (cyc k m i) ≤ 0 from fun i hi => by
                    by_cases e : i = t
                    · subst e; omega
                    · exact HA.out i (by omega))
                  have d3 : (z (cyc k m t) == 0) = true := by simpa using hzt
                  have HR3 := Lib.hid (show RefAt (wr.setCell ⟨rb, 1, none⟩ (.int .i64 ((((cyc k m t : Nat) : Int) + 1) % (m : Int)))) rb b0 off0 m cap ws (cyc k m (t + 1)) c by
                    have e : (((cyc k m t : Nat) : Int) + 1) % (m : Int) = ((cyc k m (t + 1) : Nat) : Int) := by rw [← HST.out]; simp
                    rw [e]
                    exact HR2.out.step (cyc k m (t + 1)))
                  have s1 : IntKind.i64.wrap (((cyc k m t : Nat) : Int) + 1) = ((cyc k m t : Nat) : Int) + 1 := IntWalk.i64_in _ (by omega)
                  clear hzt HR2 HA
                  generalize hcv : cyc k m t = cv at *
                  have HCV := Lib.hid hcv
                  clear hcv
                  go_wp2
                  go_roundg (m - (t + 1))
                  case rel => exact ⟨t + 1, by omega, rfl, HR3.out, HK2.out.setCell (.inl rfl) _, HA2.out⟩
                  case measure => omega
                · have d3 : (z (cyc k m t) == 0) = false := by simpa using hzt
                  have HN := Lib.hid (show NextStep z ws m k c (cyc k m t) (ws (cyc k m t) - 1) from .inr ⟨HT.out, ⟨t, ht, rfl, by omega, HA.out⟩, rfl⟩)
                  clear hzt HA HST
                  generalize cyc k m t = cv at *
                  generalize hwv : ws cv = wv at *
                  have HWV := Lib.hid hwv
                  clear hwv
                  go_wp2_with fail
                  refine wp_still_tail 13 (by kernel_rfl) (by kernel_rfl) ?_
                  intro W hW
                  have HR4 := Lib.hid (show RefAt W rb b0 off0 m cap ws cv c by subst hW; exact HR2.out.drew)
                  have HK4 := Lib.hid (show Keep (· = rb) w W by subst hW; exact HK2.out.drew)
                  clear hW e0 e1 e2 fr1 fr2 hcz hwj HR2 HK2
                  have e0 := HR4.out.c0
                  have e1 := HR4.out.c1
                  have e2 := HR4.out.c2
                  have fr2 : W.frozen? ⟨rb, 2, none⟩ = false := HR4.out.blk.free 2
                  have hwj := HR4.out.cell cv hcl
                  rw [HWV.out] at hwj
                  simp only [List.take_succ_cons, List.take_zero, List.drop_succ_cons, List.drop_zero]
                  repeat still_step
                  refine wpStill_nil ?_
                  go_wp2
                  go_ret2
                  exact .inr ⟨rfl, HG.out, HP.out, cv, wv - 1, HN.out, rfl, by simpa using (HR4.out.credit wv).credit (wv - 1), ((HK4.out.setCell (.inl rfl) _).setCell (.inl rfl) _)⟩
  · have hd : ((m : Int) != (n : Int)) = true := by simp; omega
    have hd2 : (m != n) = true := by simp; omega
    go_enter Tryd.func58, Tryd.ntmps58
    go_wp2
    go_ret2
    exact .inl ⟨2, .inl ⟨hmn, rfl⟩, rfl, rfl⟩
end Go.Proofs.YtkehhfgoikbciaaDoor
