/- granarylaw4.OrderWider, walked. -/
import Derived.Test.YtnjcmhpifdaheaaOrderRows
import Derived.Test.YtnjcmhpifdaheaaOrderFind
import Derived.Test.YtnjcmhpifdaheaaOrderRef
import Derived.Test.YtnjcmhpifdaheaaOrderWiderLaw
import Derived.Test.YtnjcmhpifdaheaaPick
import Derived.StillTailTactics
import Derived.Test.YtnjcmhpifdaheaaBase3
namespace Go.Proofs.Ytnjcmhpifdaheaa
open Go.RowKit
set_option linter.unusedVariables false
namespace Ord

theorem row_at {w w' : World} {a : Option Addr} {len cap : Nat} {z : List Int} (h : IsRow .i64 8 w a len cap z) {i : Nat} (hi : i < len) (hk : Keep (fun _ => False) w w') :
    ∃ b off, a = some ⟨b, off, none⟩ ∧ b < w'.heap.size ∧ w'.cell? ⟨b, off + i, none⟩ = some (.int .i64 (z.getD i 0)) ∧ -9223372036854775808 ≤ z.getD i 0 ∧ z.getD i 0 ≤ 9223372036854775807 := by
  obtain ⟨b, off, e, h1, h2, h3, h4, h5, h6⟩ := h.at (by omega)
  have hb := bounds_i64 (h6 i (by omega))
  refine ⟨b, off, e, Nat.lt_of_lt_of_le h4 hk.size, h5 w' (hk.below _ (Nat.le_refl _) (fun _ q => q.elim)) i (by omega), by omega, by omega⟩

set_option maxRecDepth 100000 in
set_option maxHeartbeats 8000000 in
theorem wider_widen (cs : List OCall) (h10 : cs.length ≤ 10) : True := trivial

set_option maxRecDepth 100000 in
set_option maxHeartbeats 8000000 in
theorem orderWider_walk (w : World) (a : Option Addr) (len cap : Nat) (cs : List OCall) (hr : IsCallRow w a len cap cs) (ea : Option Addr) (el ec : Nat) (ez : List Int) (he : IsRow .i64 8 w ea el ec ez) (la : Option Addr) (ll lc : Nat) (lz : List Int) (hla : IsRow .i64 8 w la ll lc lz) :
    Calls Try.prog 4 #[.slice a len cap, .slice ea el ec, .slice la ll lc] w fun e w' => e = .returned (.bool true) ∧ Below w.heap.size w w' := by
  obtain ⟨rfl, hlen, hlc, hnil, hcalls⟩ := hr
  have HF := Lib.hid (order_find w a cap cs hcalls (by omega))
  have HC := Lib.hid hcalls
  have HE := Lib.hid he
  have HL := Lib.hid hla
  have HNil := Lib.hid hnil
  have HB : Hid (∀ w', Keep (fun _ => False) w w' → Below w.heap.size w w') := fun w' hk => hk.below _ (Nat.le_refl _) (fun _ q => q.elim)
  have hel : (el : Int) ≤ 4611686018427387904 := by
    rcases he with ⟨_, h, _⟩ | ⟨_, _, h1, h2, _⟩ <;> omega
  have hll : (ll : Int) ≤ 4611686018427387904 := by
    rcases hla with ⟨_, h, _⟩ | ⟨_, _, h1, h2, _⟩ <;> omega
  clear hcalls he hla hnil
  go_enter Try.func4, Try.ntmps4
  go_wp2_with fail
  refine HF.out.mono ?_
  rintro e w1 ⟨hk1, hend⟩
  have HK1 := Lib.hid hk1
  clear hk1
  rcases hend with ⟨hf, rfl⟩ | ⟨hf, hno, rfl⟩ | ⟨hf, r, v, hfirst, rfl, hv⟩
  · rw [show errO (fault cs) = .iface 46 (.int .i64 (fault cs)) by unfold errO; rw [if_neg hf]]
    clear hf
    go_wp2_with fail
    go_ret
    exact ⟨rfl, HB.out _ HK1.out⟩
  · rw [show errO 4 = .iface 46 (.int .i64 4) from rfl]
    clear hno
    go_wp2_with fail
    go_ret
    exact ⟨rfl, HB.out _ HK1.out⟩
  · obtain ⟨hfull, hright⟩ := find_right (fault_ok hf).1 hfirst
    have h10 := (fault_ok hf).1
    obtain ⟨va, vc, rfl, _⟩ := hv.form
    have HRr := Lib.hid (ref_right w1 a cap cs va vc r (HC.out.keep HK1.out) hv hfull.lt (by omega) (by rw [hfull.len]; omega))
    have hrl : r.length = cs.length := hfull.len
    have HFirst := Lib.hid hfirst
    have HFl := Lib.hid hf
    have HRight := Lib.hid hright
    rw [hrl] at HRr ⊢
    clear hfull hright hfirst hf hv
    go_wp2_with fail
    refine HRr.out.mono ?_
    rintro e w2 ⟨b, rfl, hb, hk2⟩
    obtain rfl : b = true := hb.2 HRight.out
    have HK2 := Lib.hid (HK1.out.trans hk2)
    clear hb hk2
    obtain ⟨i0, hi, hz0', hz1, hz2⟩ := info_parts (P := Try.prog) (e := 29) (z := .agg #[.int .i64 0, .int .i64 0, .bool false, .int .i64 0, .int .i64 0]) (size := 5) (bytes := 40) (by kernel_rfl)
    have Hi := Lib.hid hi
    have Hz0 := Lib.hid hz0'
    have Hz1 := Lib.hid hz1
    have Hz2 := Lib.hid hz2
    clear hi hz0' hz1 hz2
    have HO0 : Hid ((w2.alloc (.cells #[] 29)).ownsRow w.heap.size 29 5 (.slice (some ⟨w2.heap.size, 0, none⟩) 0 0) 0 []) := World.ownsRow_lit w2 #[] 0 HK2.out.size (by decide) rfl
    have hw2 := HK2.out.size
    go_wp2_with (at_builtin; refine wpList_append_any rfl _ _ 22 rfl w.heap.size 29 i0 (.agg #[.int .i64 0, .int .i64 0, .bool false, .int .i64 0, .int .i64 0]) 5 40 Try.underlying22 Hi.out Hz0.out Hz1.out Hz2.out rfl (by decide) (.slice (some ⟨w2.heap.size, 0, none⟩) 0 0) 0 [] rfl HO0.out a cs.length cap (flat cs) rfl HNil.out (flat_length cs) ?c1 (flat_one cs) ?c2 ?c3 ?c4 ?c5)
    case c1 => exact news_calls (HC.out.keep (HK2.out.alloc _))
    case c2 => unfold maxLen; omega
    case c3 => omega
    case c4 => simp; omega
    case c5 =>
      intro v3 w3 hown hgrow _
      have hrow : MRow w.heap.size w3 v3 cs := by
        unfold MRow
        exact hown
      obtain ⟨a3, cap3, rfl, _⟩ := hrow.form
      have HK3 := Lib.hid (show Keep (fun _ => False) w w3 from (HK2.out.alloc _).grown hgrow (fun k hk => by
        simp [Value.ownBlock] at hk
        omega))
      have HRow := Lib.hid hrow
      have HWd := Lib.hid (Wider.refl HFl.out)
      have HWf : Hid (∀ i, i < cs.length → CallWf (at_ cs i)) := fun i hi => by
        obtain ⟨b, off, _, h⟩ := HC.out.resolve_left (by omega)
        exact h.2.2 i hi
      have HPos := Lib.hid (fault_ok HFl.out).2
      clear hown hgrow hrow HO0 Hi Hz0 Hz1 Hz2 HRr HF
      go_wp2_with fail
      go_loopw [11] (fun i wr => ∃ p : Nat, p ≤ cs.length ∧ i = .int .i64 p ∧ Keep (fun _ => False) w wr ∧ ∃ ms, Wider cs ms ∧ (∀ i, i < cs.length → CallWf (at_ ms i)) ∧ MRow w.heap.size wr (.slice a3 cs.length cap3) ms) (fun i _ => cs.length - (intOf i).toNat)
      case atStart => exact ⟨0, Nat.zero_le _, rfl, HK3.out, cs, HWd.out, HWf.out, HRow.out⟩
      case round =>
        obtain ⟨p, hp, rfl, hkr, ms, hwd, hwf, hrow⟩ := hrel
        have HKr := Lib.hid hkr
        have HWdr := Lib.hid hwd
        have HWfr := Lib.hid hwf
        have HRowr := Lib.hid hrow
        have hml := hwd.len
        by_cases hpl : p < cs.length
        · obtain ⟨a4, cap4, e4, hg4⟩ := hrow.form
          rw [hml] at e4
          simp only [Value.slice.injEq, true_and] at e4
          obtain ⟨rfl, rfl⟩ := e4
          obtain ⟨g, rfl, hgw, hgl⟩ := hg4 (by omega)
          clear hg4 hkr hwd hwf hrow
          go_upto_if 44 with (fail)
          rename World => wl
          go_cut [11] (fun s11 wx => s11 = .int .i64 p ∧ Keep (fun _ => False) w wx ∧ ∃ ms, Wider cs ms ∧ (∀ i, i < cs.length → CallWf (at_ ms i)) ∧ MRow w.heap.size wx (.slice (some ⟨g, 0, none⟩) cs.length cap3) ms)
          case first =>
            by_cases hpe : p < el
            · obtain ⟨eb, eoff, rfl, hebl, hec, hx0, hx1⟩ := row_at HE.out hpe HKr.out
              obtain ⟨x, hxe⟩ : ∃ x, ez.getD p 0 = x := ⟨_, rfl⟩
              rw [hxe] at hec hx0 hx1
              obtain ⟨⟨fr, to_, isw, lba, val⟩, hat⟩ : ∃ c, at_ ms p = c := ⟨_, rfl⟩
              have hcl := fun q (hq : q < 5) => HRowr.out.cell (i := p) (q := q) (by omega) hq
              rw [hat] at hcl
              have hpl1 := HWdr.out.fr0 p hpl
              have hpl2 := HWdr.out.fr p hpl
              have hpl3 := HPos.out p hpl
              have hpl4 := bounds_i64 (HWf.out p hpl).to_
              rw [hat] at hpl1 hpl2
              dsimp only at hpl1 hpl2
              have b1 : fr + 1 ≤ 9223372036854775807 := by omega
              have HPk := Lib.hid (fun W => pick_any x (fr + 1) W hx0 hx1 (by omega) b1)
              have hpk0 := pickOf_0 x (fr + 1) (by omega)
              have hpk1 := pickOf_lt x (fr + 1) (by omega)
              have HAt := Lib.hid hat
              generalize hpkv : pickOf x (fr + 1) = pk at *
              have e1 : IntKind.i64.wrap (fr + 1) = fr + 1 := IntWalk.i64_in _ (by omega)
              have e2 : IntKind.i64.wrap (fr - pk) = fr - pk := IntWalk.i64_in _ (by omega)
              have HNx : Hid (∀ W, Keep (fun _ => False) wl W → Keep (fun _ => False) w (W.setCell ⟨g, p * 5, none⟩ (.int .i64 (fr - pk))) ∧ ∃ ms, Wider cs ms ∧ (∀ i, i < cs.length → CallWf (at_ ms i)) ∧ MRow w.heap.size (W.setCell ⟨g, p * 5, none⟩ (.int .i64 (fr - pk))) (.slice (some ⟨g, 0, none⟩) cs.length cap3) ms) := fun W hW => by
                refine ⟨(HKr.out.trans hW).setCell (.inr hgw) _, ms.set p ⟨fr - pk, to_, isw, lba, val⟩, HWdr.out.set hpl (by show 0 ≤ fr - pk; omega) (by rw [HAt.out]; show fr - pk ≤ fr; omega) (by rw [HAt.out]; exact Int.le_refl _) (by rw [HAt.out]) (by rw [HAt.out]) (by rw [HAt.out]), fun i hi => ?_, ?_⟩
                · rw [at_set ms p _ (by omega) i]
                  split
                  · have h1 := HWfr.out p hpl
                    rw [HAt.out] at h1
                    exact ⟨show (Lit.int .i64 (fr - pk)).wf = true from wf_in (by omega) (by omega), h1.to_, h1.lba, h1.val⟩
                  · exact HWfr.out i hi
                · exact (HRowr.out.keep0 hW).set (i := p) (q := 0) (by omega) (by omega) (by rw [HAt.out]; rfl)
              have hfz := HRowr.out.free (p * 5)
              have HFz := Lib.hid hfz
              have HCl := Lib.hid hcl
              clear hcl hat hxe hfz hpl1 hpl2 hpl3 hpl4
              have d0 : decide ((p : Int) < (el : Int)) = true := decide_eq_true (by omega)
              go_wp2_with fail
              refine wp_still_tail 21 (by kernel_rfl) (by kernel_rfl) ?_
              intro W hW
              have HKW := Lib.hid (show Keep (fun _ => False) wl W by subst hW; exact (Keep.refl _ _).drew)
              have c0 : W.cell? ⟨g, p * 5, none⟩ = some (.int .i64 fr) := by subst hW; exact HCl.out 0 (by omega)
              have x0 : W.cell? ⟨eb, eoff + p, none⟩ = some (.int .i64 x) := by subst hW; exact hec
              have f0 : W.frozen? ⟨g, p * 5, none⟩ = false := by subst hW; exact HFz.out
              clear hW hec
              simp only [List.take_succ_cons, List.take_zero, List.drop_succ_cons, List.drop_zero]
              iterate 17 still_step
              still_call ((HPk.out W).mono fun e w'' h => ⟨h.1, h.2.symm⟩)
              iterate 3 still_step
              refine wpStill_nil ?_
              go_wp2_with fail
              go_meet
              case rel => exact ⟨rfl, HNx.out _ HKW.out⟩
            · have d0 : decide ((p : Int) < (el : Int)) = false := decide_eq_false (by omega)
              go_wp2_with fail
              go_meet
              case rel => exact ⟨rfl, HKr.out, ms, HWdr.out, HWfr.out, HRowr.out⟩
          case rest =>
            obtain ⟨rfl, hkr2, ms2, hwd, hwf, hrow⟩ := hcut
            clear HKr HWdr HWfr HRowr hml
            have HKr := Lib.hid hkr2
            have HWdr := Lib.hid hwd
            have HWfr := Lib.hid hwf
            have HRowr := Lib.hid hrow
            have hml := hwd.len
            obtain ⟨⟨fr, to_, isw, lba, val⟩, hat⟩ : ∃ c, at_ ms2 p = c := ⟨_, rfl⟩
            have hcl := fun q (hq : q < 5) => HRowr.out.cell (i := p) (q := q) (by omega) hq
            rw [hat] at hcl
            have HCl := Lib.hid hcl
            have HAt := Lib.hid hat
            have hglx : g < wc.heap.size := by
              obtain ⟨_, _, e, h⟩ := hrow.form
              rw [hml] at e
              simp only [Value.slice.injEq, true_and] at e
              obtain ⟨rfl, rfl⟩ := e
              obtain ⟨g', e', _, h'⟩ := h (by omega)
              cases e'
              exact h'
            clear hcl hat hkr2 hwd hwf hrow
            have c1 : wc.cell? ⟨g, p * 5 + 1, none⟩ = some (.int .i64 to_) := HCl.out 1 (by omega)
            by_cases hpe : p < ll
            · have d0 : decide ((p : Int) < (ll : Int)) = true := decide_eq_true (by omega)
              by_cases hto : to_ < 1000000
              · have d1 : decide (to_ < 1000000) = true := decide_eq_true hto
                obtain ⟨eb, eoff, rfl, hebl, hec, hx0, hx1⟩ := row_at HL.out hpe HKr.out
                obtain ⟨x, hxe⟩ : ∃ x, lz.getD p 0 = x := ⟨_, rfl⟩
                rw [hxe] at hec hx0 hx1
                have HPk := Lib.hid (fun W => pick_any x 100 W hx0 hx1 (by omega) (by omega))
                have hpk0 := pickOf_0 x 100 (by omega)
                have hpk1 := pickOf_lt x 100 (by omega)
                generalize hpkv : pickOf x 100 = pk at *
                have hfw := bounds_i64 (HWfr.out p hpl).to_
                rw [HAt.out] at hfw
                dsimp only at hfw
                have e2 : IntKind.i64.wrap (to_ + pk) = to_ + pk := IntWalk.i64_in _ (by omega)
                have HNx : Hid (∀ W, Keep (fun _ => False) wc W → Keep (fun _ => False) w (W.setCell ⟨g, p * 5 + 1, none⟩ (.int .i64 (to_ + pk))) ∧ ∃ ms, Wider cs ms ∧ (∀ i, i < cs.length → CallWf (at_ ms i)) ∧ MRow w.heap.size (W.setCell ⟨g, p * 5 + 1, none⟩ (.int .i64 (to_ + pk))) (.slice (some ⟨g, 0, none⟩) cs.length cap3) ms) := fun W hW => by
                  have hfr := HWdr.out.fr0 p hpl
                  rw [HAt.out] at hfr
                  refine ⟨(HKr.out.trans hW).setCell (.inr hgw) _, ms2.set p ⟨fr, to_ + pk, isw, lba, val⟩, HWdr.out.set hpl hfr (by rw [HAt.out]; exact Int.le_refl _) (by rw [HAt.out]; show to_ ≤ to_ + pk; omega) (by rw [HAt.out]) (by rw [HAt.out]) (by rw [HAt.out]), fun i hi => ?_, ?_⟩
                  · rw [at_set ms2 p _ (by omega) i]
                    split
                    · have h1 := HWfr.out p hpl
                      rw [HAt.out] at h1
                      exact ⟨h1.fr, show (Lit.int .i64 (to_ + pk)).wf = true from wf_in (by omega) (by omega), h1.lba, h1.val⟩
                    · exact HWfr.out i hi
                  · exact (HRowr.out.keep0 hW).set (i := p) (q := 1) (by omega) (by omega) (by rw [HAt.out]; rfl)
                have HFz := Lib.hid (HRowr.out.free (p * 5 + 1))
                clear hxe hfw hto
                go_wp2_with fail
                refine wp_still_tail 15 (by kernel_rfl) (by kernel_rfl) ?_
                intro W hW
                have HKW := Lib.hid (show Keep (fun _ => False) wc W by subst hW; exact (Keep.refl _ _).drew)
                have k1 : W.cell? ⟨g, p * 5 + 1, none⟩ = some (.int .i64 to_) := by subst hW; exact c1
                have x0 : W.cell? ⟨eb, eoff + p, none⟩ = some (.int .i64 x) := by subst hW; exact hec
                have f0 : W.frozen? ⟨g, p * 5 + 1, none⟩ = false := by subst hW; exact HFz.out
                clear hW hec c1
                simp only [List.take_succ_cons, List.take_zero, List.drop_succ_cons, List.drop_zero]
                iterate 11 still_step
                still_call ((HPk.out W).mono fun e w'' h => ⟨h.1, h.2.symm⟩)
                iterate 3 still_step
                refine wpStill_nil ?_
                go_wp2_with fail
                go_roundw
                case rel => exact ⟨p + 1, by omega, by go_num, (HNx.out _ HKW.out).1, (HNx.out _ HKW.out).2⟩
                case measure => simp [intOf]; omega
              · have d1 : decide (to_ < 1000000) = false := decide_eq_false hto
                clear hto
                go_wp2_with fail
                go_roundw
                case rel => exact ⟨p + 1, by omega, by go_num, HKr.out, ms2, HWdr.out, HWfr.out, HRowr.out⟩
                case measure => simp [intOf]; omega
            · have d0 : decide ((p : Int) < (ll : Int)) = false := decide_eq_false (by omega)
              go_wp2_with fail
              go_roundw
              case rel => exact ⟨p + 1, by omega, by go_num, HKr.out, ms2, HWdr.out, HWfr.out, HRowr.out⟩
              case measure => simp [intOf]; omega
        · obtain rfl : p = cs.length := by omega
          obtain ⟨r2, hr2, hfull2, hright2⟩ := hwd.found HFl.out HFirst.out
          have hf2 := hwd.faultless HFl.out
          have hic := hrow.isCalls (fun i hi => hwf i (by omega))
          have HF2 := Lib.hid (order_find wr a3 cap3 ms hic (by omega))
          rw [hml] at HF2
          have HR2 := Lib.hid hr2
          have HFull2 := Lib.hid hfull2
          have HRight2 := Lib.hid hright2
          have HFl2 := Lib.hid hf2
          have HIc := Lib.hid hic
          clear hkr hwd hwf hrow hr2 hfull2 hright2 hf2 hic
          go_wp2_with fail
          refine HF2.out.mono ?_
          rintro e w9 ⟨hk9, hend⟩
          have HK9 := Lib.hid hk9
          obtain ⟨v9, rfl, hv9⟩ : ∃ v, e = .returned (.tuple #[v, .nilIface]) ∧ LAt w9 v r2 := by
            rcases hend with ⟨h, _⟩ | ⟨_, h, _⟩ | ⟨_, r', v, h, he, hv⟩
            · exact absurd HFl2.out h
            · have := HR2.out
              rw [h] at this
              cases this
            · have := HR2.out
              rw [h] at this
              cases this
              exact ⟨v, he, hv⟩
          obtain ⟨va9, vc9, rfl, _⟩ := hv9.form
          have hl9 : r2.length = cs.length := by rw [HFull2.out.len, hml]
          have HRr := Lib.hid (ref_right w9 a3 cap3 ms va9 vc9 r2 (HIc.out.keep hk9) hv9 HFull2.out.lt (by omega) (by omega))
          rw [hl9, hml] at HRr
          rw [hl9]
          clear hk9 hend hv9
          go_wp2_with fail
          refine HRr.out.mono ?_
          rintro e w10 ⟨b, rfl, hb, hk10⟩
          obtain rfl : b = true := hb.2 HRight2.out
          have HK10 := Lib.hid ((HKr.out.trans HK9.out).trans hk10)
          clear hb hk10
          go_wp2_with fail
          go_ret
          exact ⟨rfl, HB.out _ HK10.out⟩
end Ord
end Go.Proofs.Ytnjcmhpifdaheaa
