/- Contract of granaryref2.Right. -/
import Derived.Test.YtnjcmhpifdaheaaDoorOrderCheck
import Derived.Laws.OwnMore
namespace Go.Proofs.YtnjcmhpifdaheaaDoor
open Go.RowKit
set_option linter.unusedVariables false
namespace Ord

theorem LAt.inside {w : World} {la : Option Addr} {n lc : Nat} {ord : List Nat} (h : LAt w (.slice la n lc) ord) (hp : 0 < ord.length) : ∃ lb, la = some ⟨lb, 0, none⟩ ∧ lb < w.heap.size ∧ ∀ i, i < ord.length → w.cell? ⟨lb, i, none⟩ = some (.int .i64 ((ord.getD i 0 : Nat) : Int)) := by
  rcases h with ⟨_, e⟩ | ⟨g, cap, e, _, _, h4, h5⟩
  · subst e; simp at hp
  · cases e; exact ⟨g, rfl, h4, h5⟩
theorem LAt.keep0 {w w' : World} {v : Value} {ord : List Nat} (h : LAt w v ord) (hk : Keep (fun _ => False) w w') : LAt w' v ord := by
  refine h.imp id ?_
  rintro ⟨g, cap, h1, h2, h3, h4, h5⟩
  exact ⟨g, cap, h1, h2, h3, Nat.lt_of_lt_of_le h4 hk.size, fun i hi => (hk.cell (p := ⟨g, i, none⟩) h4 (fun q => q)).trans (h5 i hi)⟩

theorem getD_mem {ord : List Nat} {i : Nat} (h : i < ord.length) : ord.getD i 0 ∈ ord := by
  simp [List.getD, h]

set_option maxRecDepth 100000 in
set_option maxHeartbeats 8000000 in
theorem ref_right (w : World) (a : Option Addr) (cap : Nat) (cs : List OCall) (la : Option Addr) (lc : Nat) (ord : List Nat) (hc : IsCalls w a cs) (hL : LAt w (.slice la ord.length lc) ord) (hlt : ∀ x ∈ ord, x < cs.length) (hl : cs.length ≤ 9223372036854775807) (hl2 : ord.length ≤ 9223372036854775806) :
    Calls Tryd.prog 9 #[.slice a cs.length cap, .slice la ord.length lc] w fun e w' => ∃ b, e = .returned (.bool b) ∧ (b = true ↔ Right cs ord) ∧ Keep (fun _ => False) w w' := by
  have HC := Lib.hid hc
  have HL := Lib.hid hL
  have HLt := Lib.hid hlt
  have HNo : Hid (∀ p, p < ord.length → ¬ RightAt cs ord p → ∀ w', Keep (fun _ => False) w w' → ∃ b, Ending.returned (.bool false) = .returned (.bool b) ∧ (b = true ↔ Right cs ord) ∧ Keep (fun _ => False) w w') := fun p hp hn w' hk =>
    ⟨false, rfl, ⟨(fun q => by cases q), (fun q => absurd (q p hp) hn)⟩, hk⟩
  clear hc hL hlt
  go_enter Tryd.func9, Tryd.ntmps9
  go_wp2_with fail
  go_loopw [5] (fun i wr => ∃ p : Nat, p ≤ ord.length ∧ i = .int .i64 p ∧ Keep (fun _ => False) w wr ∧ ∀ q, q < p → RightAt cs ord q) (fun i _ => ord.length - (intOf i).toNat)
  case atStart => exact ⟨0, Nat.zero_le _, rfl, Keep.refl _ _, fun q hq => absurd hq (Nat.not_lt_zero _)⟩
  case round =>
    obtain ⟨p, hp, rfl, hk, hall⟩ := hrel
    by_cases hpl : p < ord.length
    · obtain ⟨lb, rfl, hlb, hlc⟩ := (HL.out.keep0 hk).inside (by omega)
      have hop := HLt.out _ (getD_mem hpl)
      obtain ⟨cb, off, rfl, hca⟩ := (HC.out.keep hk).resolve_left (by omega)
      have l0 := hlc p hpl
      obtain ⟨o, ho⟩ : ∃ o, ord.getD p 0 = o := ⟨_, rfl⟩
      rw [ho] at l0 hop
      have hcell := hca.2.1 o hop
      have hclr := hca.1
      obtain ⟨⟨fr, to_, isw, lba, val⟩, hat⟩ : ∃ c, at_ cs o = c := ⟨_, rfl⟩
      rw [hat] at hcell
      have c0 : wr.cell? ⟨cb, off + o * 5, none⟩ = some (.int .i64 fr) := hcell 0 _ rfl
      have c1 : wr.cell? ⟨cb, off + o * 5 + 1, none⟩ = some (.int .i64 to_) := hcell 1 _ rfl
      have c2 : wr.cell? ⟨cb, off + o * 5 + 2, none⟩ = some (.bool isw) := hcell 2 _ rfl
      have c3 : wr.cell? ⟨cb, off + o * 5 + 3, none⟩ = some (.int .i64 lba) := hcell 3 _ rfl
      have c4 : wr.cell? ⟨cb, off + o * 5 + 4, none⟩ = some (.int .i64 val) := hcell 4 _ rfl
      have HOat : Hid (oat cs ord p = ⟨fr, to_, isw, lba, val⟩) := by show oat cs ord p = _; unfold oat; rw [ho]; exact hat
      have HK := Lib.hid hk
      have HAll := Lib.hid hall
      clear hk hall hcell hat ho hlc hca
      go_wp2_with fail
      rename World => w5
      have HK6 := Lib.hid (HK.out.alloc (.cells #[.int .i64 fr, .int .i64 to_, .bool isw, .int .i64 lba, .int .i64 val] 39))
      have HB6 := Lib.hid (Blk.new w5 #[.int .i64 fr, .int .i64 to_, .bool isw, .int .i64 lba, .int .i64 val] 39)
      clear c0 c1 c2 c3 c4 l0 HK
      generalize w5.alloc (.cells #[.int .i64 fr, .int .i64 to_, .bool isw, .int .i64 lba, .int .i64 val] 39) = w6 at *
      generalize w5.heap.size = gc at *
      go_loopw [7] (fun i wr => ∃ k : Nat, k ≤ p ∧ i = .int .i64 k ∧ Keep (fun _ => False) w6 wr ∧ ∀ q, q < k → (oat cs ord q).fr < to_) (fun i _ => p - (intOf i).toNat)
      case atStart => exact ⟨0, Nat.zero_le _, rfl, Keep.refl _ _, fun q hq => absurd hq (Nat.not_lt_zero _)⟩
      case round =>
        obtain ⟨k, hk, rfl, hkr, hall⟩ := hrel
        have HKr := Lib.hid hkr
        have HAr := Lib.hid hall
        have HKw := Lib.hid (HK6.out.trans hkr)
        have hbg := hkr.blk HB6.out (fun q => q)
        have hgl := hbg.lt
        have HBg := Lib.hid hbg
        by_cases hkp : k < p
        · obtain ⟨lb1, e1, hlb1, hlc1⟩ := (HL.out.keep0 HKw.out).inside (by omega)
          cases e1
          have hop1 := HLt.out _ (getD_mem (i := k) (by omega))
          obtain ⟨cb1, off1, e1, hca1⟩ := (HC.out.keep HKw.out).resolve_left (by omega)
          cases e1
          have l1 := hlc1 k (by omega)
          obtain ⟨o1, ho1⟩ : ∃ o, ord.getD k 0 = o := ⟨_, rfl⟩
          rw [ho1] at l1 hop1
          have hcell := hca1.2.1 o1 hop1
          have hclr1 := hca1.1
          obtain ⟨⟨fr1, to1, isw1, lba1, val1⟩, hat1⟩ : ∃ c, at_ cs o1 = c := ⟨_, rfl⟩
          rw [hat1] at hcell
          have c0 : wr.cell? ⟨cb, off + o1 * 5, none⟩ = some (.int .i64 fr1) := hcell 0 _ rfl
          have p1 : wr.cell? ⟨gc, 1, none⟩ = some (.int .i64 to_) := hbg.cell 1
          have HOat1 : Hid (oat cs ord k = ⟨fr1, to1, isw1, lba1, val1⟩) := by show oat cs ord k = _; unfold oat; rw [ho1]; exact hat1
          clear hkr hall hcell hat1 ho1 hlc1 hca1 hbg
          by_cases hto : to_ ≤ fr1
          · have d0 : decide (to_ ≤ fr1) = true := decide_eq_true hto
            have HN := Lib.hid (HNo.out p hpl (fun q => by
              have := q.1 k hkp
              rw [HOat.out, HOat1.out] at this
              exact this hto))
            clear hto
            go_wp2_with fail
            go_region
            go_wp2_with fail
            go_ret
            exact HN.out _ (HKw.out.drew)
          · have d0 : decide (to_ ≤ fr1) = false := decide_eq_false hto
            have HNx : Hid (∀ q, q < k + 1 → (oat cs ord q).fr < to_) := fun q hq => by
              by_cases e : q = k
              · subst e; rw [HOat1.out]; exact Int.not_le.1 hto
              · exact HAr.out q (by omega)
            clear hto
            go_wp2_with fail
            go_region
            go_wp2_with fail
            go_roundw
            case rel => exact ⟨k + 1, by omega, by go_num, HKr.out.drew, HNx.out⟩
            case measure => simp [intOf]; omega
        · obtain rfl : k = p := by omega
          have p2 : wr.cell? ⟨gc, 2, none⟩ = some (.bool isw) := hbg.cell 2
          clear hkr hall hbg
          cases isw with
          | true =>
            have HNx : Hid (∀ q, q < k + 1 → RightAt cs ord q) := fun q hq => by
              by_cases e : q = k
              · subst e
                refine ⟨fun z hz => by rw [HOat.out]; exact Int.not_le.2 (HAr.out z hz), .inl (by rw [HOat.out])⟩
              · exact HAll.out q (by omega)
            go_wp2_with fail
            go_roundw
            case rel => exact ⟨k + 1, by omega, by go_num, HKw.out, HNx.out⟩
            case measure => simp [intOf]; omega
          | false =>
            rename World => w7
            go_wp2_with fail
            go_loopw [9, 8] (fun i v wr => ∃ m : Nat, m ≤ k ∧ i = .int .i64 m ∧ v = .int .i64 (lastV cs ord lba m) ∧ Keep (fun _ => False) w7 wr) (fun i _ _ => k - (intOf i).toNat)
            case atStart => exact ⟨0, Nat.zero_le _, rfl, rfl, Keep.refl _ _⟩
            case round =>
              obtain ⟨m, hm, rfl, rfl, hkm⟩ := hrel
              have HKm := Lib.hid hkm
              have HKwm := Lib.hid (HKw.out.trans hkm)
              have hbg := hkm.blk HBg.out (fun q => q)
              have hglm := hbg.lt
              by_cases hmk : m < k
              · obtain ⟨lb1, e1, hlb1, hlc1⟩ := (HL.out.keep0 HKwm.out).inside (by omega)
                cases e1
                have hop1 := HLt.out _ (getD_mem (i := m) (by omega))
                obtain ⟨cb1, off1, e1, hca1⟩ := (HC.out.keep HKwm.out).resolve_left (by omega)
                cases e1
                have l1 := hlc1 m (by omega)
                obtain ⟨o1, ho1⟩ : ∃ o, ord.getD m 0 = o := ⟨_, rfl⟩
                rw [ho1] at l1 hop1
                have hcell := hca1.2.1 o1 hop1
                have hclr1 := hca1.1
                obtain ⟨⟨fr1, to1, isw1, lba1, val1⟩, hat1⟩ : ∃ c, at_ cs o1 = c := ⟨_, rfl⟩
                rw [hat1] at hcell
                have c2 : wr.cell? ⟨cb, off + o1 * 5 + 2, none⟩ = some (.bool isw1) := hcell 2 _ rfl
                have c3 : wr.cell? ⟨cb, off + o1 * 5 + 3, none⟩ = some (.int .i64 lba1) := hcell 3 _ rfl
                have c4 : wr.cell? ⟨cb, off + o1 * 5 + 4, none⟩ = some (.int .i64 val1) := hcell 4 _ rfl
                have p3 : wr.cell? ⟨gc, 3, none⟩ = some (.int .i64 lba) := hbg.cell 3
                have HOat1 : Hid (oat cs ord m = ⟨fr1, to1, isw1, lba1, val1⟩) := by show oat cs ord m = _; unfold oat; rw [ho1]; exact hat1
                clear hkm hcell hat1 ho1 hlc1 hca1 hbg
                have hlv : lastV cs ord lba (m + 1) = if isw1 && decide (lba1 = lba) then val1 else lastV cs ord lba m := by rw [lastV, HOat1.out]
                cases isw1 with
                | false =>
                  have HLv := Lib.hid (show lastV cs ord lba (m + 1) = lastV cs ord lba m by rw [hlv]; simp)
                  clear hlv
                  go_wp2_with fail
                  go_region
                  go_wp2_with fail
                  go_roundw
                  case rel => exact ⟨m + 1, by omega, by go_num, by rw [HLv.out], HKm.out.drew⟩
                  case measure => simp [intOf]; omega
                | true =>
                  by_cases hlba : lba1 = lba
                  · have d1 : (lba1 == lba) = true := by simp [hlba]
                    have HLv := Lib.hid (show lastV cs ord lba (m + 1) = val1 by rw [hlv]; simp [hlba])
                    clear hlv hlba
                    go_wp2_with fail
                    go_region
                    go_wp2_with fail
                    go_roundw
                    case rel => exact ⟨m + 1, by omega, by go_num, by rw [HLv.out], HKm.out.drew⟩
                    case measure => simp [intOf]; omega
                  · have d1 : (lba1 == lba) = false := by simp [hlba]
                    have HLv := Lib.hid (show lastV cs ord lba (m + 1) = lastV cs ord lba m by rw [hlv]; simp [hlba])
                    clear hlv hlba
                    go_wp2_with fail
                    go_region
                    go_wp2_with fail
                    go_roundw
                    case rel => exact ⟨m + 1, by omega, by go_num, by rw [HLv.out], HKm.out.drew⟩
                    case measure => simp [intOf]; omega
              · obtain rfl : m = k := by omega
                have p4 : wr.cell? ⟨gc, 4, none⟩ = some (.int .i64 val) := hbg.cell 4
                clear hkm hbg
                by_cases hv : lastV cs ord lba m = val
                · have d1 : (lastV cs ord lba m != val) = false := by simp [hv]
                  have HNx : Hid (∀ q, q < m + 1 → RightAt cs ord q) := fun q hq => by
                    by_cases e : q = m
                    · subst e
                      refine ⟨fun z hz => by rw [HOat.out]; exact Int.not_le.2 (HAr.out z hz), .inr (by rw [HOat.out]; exact hv)⟩
                    · exact HAll.out q (by omega)
                  clear hv
                  go_wp2_with fail
                  go_roundw
                  case rel => exact ⟨m + 1, by omega, by go_num, HKwm.out, HNx.out⟩
                  case measure => simp [intOf]; omega
                · have d1 : (lastV cs ord lba m != val) = true := by simp [hv]
                  have HN := Lib.hid (HNo.out m hpl (fun q => by
                    have := q.2
                    rw [HOat.out] at this
                    rcases this with h | h
                    · cases h
                    · exact hv h))
                  clear hv
                  go_wp2_with fail
                  go_ret
                  exact HN.out _ HKwm.out
    · obtain rfl : p = ord.length := by omega
      have HK := Lib.hid hk
      have HAll := Lib.hid hall
      clear hk hall
      go_wp2_with fail
      go_ret
      exact ⟨true, rfl, ⟨fun _ => HAll.out, fun _ => rfl⟩, HK.out⟩
end Ord
end Go.Proofs.YtnjcmhpifdaheaaDoor
