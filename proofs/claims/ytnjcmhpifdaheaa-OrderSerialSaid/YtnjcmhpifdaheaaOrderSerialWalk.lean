/- granarylaw4.OrderSerial, walked. -/
import Derived.Test.YtnjcmhpifdaheaaOrderRows
import Derived.Test.YtnjcmhpifdaheaaOrderFind
import Derived.Test.YtnjcmhpifdaheaaOrderRef
import Derived.Test.YtnjcmhpifdaheaaOrderSerialLaw
import Derived.Test.YtnjcmhpifdaheaaOrderWiderWalk
import Derived.Test.YtnjcmhpifdaheaaPick
import Derived.Test.YtnjcmhpifdaheaaBase3
import Derived.StillTailTactics
namespace Go.Proofs.Ytnjcmhpifdaheaa
open Go.RowKit
set_option linter.unusedVariables false
namespace Ord

/-- the calls that are built, so far -/
structure Made (base : Nat) (w wr : World) (v : Value) (ms : List OCall) : Prop where
  row : MRow base wr v ms
  ser : Ser ms
  wf : ∀ c ∈ ms, CallWf c
  top : ∀ c ∈ ms, c.fr < 100 + 10 * (ms.length : Int)
  keep : Keep (fun _ => False) w wr
theorem mem_at {ms : List OCall} {i : Nat} (h : i < ms.length) : at_ ms i ∈ ms := by
  simp [at_, List.getD, h]
theorem take_next (ms : List OCall) (p : Nat) (h : p < ms.length) : ms.take (p + 1) = ms.take p ++ [at_ ms p] := by
  rw [List.take_add_one]
  simp [at_, List.getD, h]

set_option maxRecDepth 100000 in
set_option maxHeartbeats 16000000 in
theorem orderSerial_walk (w : World) (a : Option Addr) (len cap : Nat) (cs : List OCall) (hr : IsCallRow w a len cap cs) (ea : Option Addr) (el ec : Nat) (ez : List Int) (he : IsRow .i64 8 w ea el ec ez) (la : Option Addr) (ll lc : Nat) (lz : List Int) (hla : IsRow .i64 8 w la ll lc lz) :
    Calls Try.prog 3 #[.slice a len cap, .slice ea el ec, .slice la ll lc] w fun e w' => e = .returned (.bool true) ∧ Below w.heap.size w w' := by
  obtain ⟨rfl, hlen, hlc, hnil, hcalls⟩ := hr
  have HC := Lib.hid hcalls
  have HE := Lib.hid he
  have HL := Lib.hid hla
  have HB : Hid (∀ w', Keep (fun _ => False) w w' → Below w.heap.size w w') := fun w' hk => hk.below _ (Nat.le_refl _) (fun _ q => q.elim)
  have hel : (el : Int) ≤ 4611686018427387904 := by
    rcases he with ⟨_, h, _⟩ | ⟨_, _, h1, h2, _⟩ <;> omega
  have hll : (ll : Int) ≤ 4611686018427387904 := by
    rcases hla with ⟨_, h, _⟩ | ⟨_, _, h1, h2, _⟩ <;> omega
  clear hcalls he hla hnil
  go_enter Try.func3, Try.ntmps3
  go_wp2_with fail
  have hRow0 : MRow w.heap.size (w.alloc (.cells #[.int .i64 1, .int .i64 2, .bool true, .int .i64 0, .int .i64 7, .int .i64 1, .int .i64 2, .bool false, .int .i64 0, .int .i64 7] 29)) (.slice (some ⟨w.heap.size, 0, none⟩) 2 2) two :=
    World.ownsRow_lit w #[.int .i64 1, .int .i64 2, .bool true, .int .i64 0, .int .i64 7, .int .i64 1, .int .i64 2, .bool false, .int .i64 0, .int .i64 7] 2 (Nat.le_refl _) (by decide) rfl
  have hFind := order_find _ (some ⟨w.heap.size, 0, none⟩) 2 two (hRow0.isCalls (fun i hi => by
    match i, hi with
    | 0, _ => exact ⟨rfl, rfl, rfl, rfl⟩
    | 1, _ => exact ⟨rfl, rfl, rfl, rfl⟩)) (by decide)
  rw [show two.length = 2 from rfl] at hFind
  refine hFind.mono ?_
  rintro e w1 ⟨hk1, hend⟩
  have HK1 := Lib.hid (show Keep (fun _ => False) w w1 from ((Keep.refl _ _).alloc _).trans hk1)
  obtain ⟨g0, cp0, rfl, hc0⟩ : ∃ g cp, e = .returned (.tuple #[.slice (some ⟨g, 0, none⟩) 2 cp, .nilIface]) ∧ w1.cell? ⟨g, 0, none⟩ = some (.int .i64 0) := by
    rcases hend with ⟨h, _⟩ | ⟨_, h, _⟩ | ⟨_, r', v, h, he, hv⟩
    · exact absurd two_fault h
    · rw [two_first] at h; cases h
    · rw [two_first] at h
      cases h
      rcases hv with ⟨_, h⟩ | ⟨g, cp, rfl, _, _, _, hcl⟩
      · cases h
      · exact ⟨g, cp, he, hcl 0 (by decide)⟩
  clear hk1 hend hFind hRow0
  by_cases h10 : 10 < cs.length
  · have d0 : decide ((10 : Int) < (cs.length : Int)) = true := decide_eq_true (by omega)
    clear h10
    go_wp2_with fail
    go_ret
    exact ⟨rfl, HB.out _ HK1.out⟩
  · have d0 : decide ((10 : Int) < (cs.length : Int)) = false := decide_eq_false (by omega)
    have hn : cs.length ≤ 10 := by omega
    clear h10
    go_wp2_with fail
    clear hc0
    have hm0 : Made w.heap.size w w1 (.slice none 0 0) [] := ⟨⟨rfl, .inl ⟨rfl, rfl⟩⟩, Ser.nil, (fun c hc => by cases hc), (fun c hc => by cases hc), HK1.out⟩
    have HM0 := Lib.hid hm0
    clear hm0
    obtain ⟨i0, hi, hz0', hz1, hz2⟩ := info_parts (P := Try.prog) (e := 29) (z := .agg #[.int .i64 0, .int .i64 0, .bool false, .int .i64 0, .int .i64 0]) (size := 5) (bytes := 40) (by kernel_rfl)
    have Hi := Lib.hid hi
    have Hz0 := Lib.hid hz0'
    have Hz1 := Lib.hid hz1
    have Hz2 := Lib.hid hz2
    clear hi hz0' hz1 hz2
    go_loopw [9, 10] (fun v i wr => ∃ ms : List OCall, ms.length ≤ cs.length ∧ i = .int .i64 ms.length ∧ Made w.heap.size w wr v ms) (fun _ i _ => cs.length - (intOf i).toNat)
    case atStart => exact ⟨[], Nat.zero_le _, rfl, HM0.out⟩
    case round =>
      obtain ⟨ms, hms, rfl, hmade⟩ := hrel
      obtain ⟨am, cm, rfl, hgm⟩ := hmade.row.form
      have HM := Lib.hid hmade
      have HGm := Lib.hid hgm
      clear hmade hgm
      obtain ⟨p, hpe⟩ : ∃ p, ms.length = p := ⟨_, rfl⟩
      have HPe := Lib.hid hpe
      rw [hpe] at hms ⊢
      clear hpe
      by_cases hpl : p < cs.length
      · obtain ⟨cb, off, rfl, hca⟩ := (HC.out.keep HM.out.keep).resolve_left (by omega)
        have hcell := hca.2.1 p hpl
        have hwf := hca.2.2 p hpl
        have hclr := hca.1
        obtain ⟨⟨fr, to_, isw, lba, val⟩, hat⟩ : ∃ c, at_ cs p = c := ⟨_, rfl⟩
        rw [hat] at hcell hwf
        have c0 : wr.cell? ⟨cb, off + p * 5, none⟩ = some (.int .i64 fr) := hcell 0 _ rfl
        have c1 : wr.cell? ⟨cb, off + p * 5 + 1, none⟩ = some (.int .i64 to_) := hcell 1 _ rfl
        have c2 : wr.cell? ⟨cb, off + p * 5 + 2, none⟩ = some (.bool isw) := hcell 2 _ rfl
        have c3 : wr.cell? ⟨cb, off + p * 5 + 3, none⟩ = some (.int .i64 lba) := hcell 3 _ rfl
        have c4 : wr.cell? ⟨cb, off + p * 5 + 4, none⟩ = some (.int .i64 val) := hcell 4 _ rfl
        have hlb := bounds_i64 hwf.lba
        have hvb := bounds_i64 hwf.val
        have HPL := Lib.hid (fun W => pick_any lba 3 W hlb.1 hlb.2 (by omega) (by omega))
        have HPV := Lib.hid (fun W => pick_any val 4 W hvb.1 hvb.2 (by omega) (by omega))
        have hL0 := pickOf_0 lba 3 (by omega)
        have hL1 := pickOf_lt lba 3 (by omega)
        have hV0 := pickOf_0 val 4 (by omega)
        have hV1 := pickOf_lt val 4 (by omega)
        generalize pickOf lba 3 = L at *
        generalize pickOf val 4 = V at *
        clear hca hcell hwf hat
        go_wp2_with fail
        refine (HPL.out _).mono ?_
        rintro e w' ⟨rfl, rfl⟩
        go_wp2_with fail
        refine (HPV.out _).mono ?_
        rintro e w' ⟨rfl, rfl⟩
        go_upto_if 62 with (fail)
        rename World => wl
        have HB6 := Lib.hid (Blk.new wl #[.int .i64 fr, .int .i64 to_, .bool isw, .int .i64 L, .int .i64 V] 29)
        have HK6 := Lib.hid (show Keep (fun _ => False) wl (wl.alloc (.cells #[.int .i64 fr, .int .i64 to_, .bool isw, .int .i64 L, .int .i64 V] 29)) from (Keep.refl _ _).alloc _)
        clear c0 c1 c2 c3 c4
        generalize wl.alloc (.cells #[.int .i64 fr, .int .i64 to_, .bool isw, .int .i64 L, .int .i64 V] 29) = w6 at *
        generalize hgc : wl.heap.size = gc at *
        have HGc := Lib.hid hgc
        go_cut [10] (fun s10 wx => s10 = .int .i64 p ∧ Keep (fun _ => False) wl wx ∧ ∃ val', Blk wx gc #[.int .i64 fr, .int .i64 to_, .bool isw, .int .i64 L, .int .i64 val'] 29 ∧ (isw = true ∨ lastOf ms L = val') ∧ 0 ≤ val' ∧ (Lit.int .i64 val').wf = true)
        case first =>
          cases isw with
          | true =>
            have HV : Hid (0 ≤ V ∧ (Lit.int .i64 V).wf = true) := ⟨hV0, wf_in (by omega) (by omega)⟩
            go_wp2_with fail
            go_meet
            case rel => exact ⟨rfl, HK6.out, V, HB6.out, .inl (by first | rfl | trivial), HV.out.1, HV.out.2⟩
          | false =>
            have b4 : w6.cell? ⟨gc, 4, none⟩ = some (.int .i64 V) := HB6.out.cell 4
            have f4 : w6.frozen? ⟨gc, 4, none⟩ = false := HB6.out.free 4
            go_wp2_with fail
            have HB7 := Lib.hid (HB6.out.set 4 (.int .i64 0))
            have HK7 := Lib.hid (HK6.out.setCell (p := ⟨gc, 4, none⟩) (.inr (by show wl.heap.size ≤ gc; omega)) (.int .i64 0))
            clear b4 f4
            generalize w6.setCell ⟨gc, 4, none⟩ (.int .i64 0) = w7 at *
            go_loopw [12] (fun i wr => ∃ q : Nat, q ≤ p ∧ i = .int .i64 q ∧ Keep (fun _ => False) wl wr ∧ Blk wr gc #[.int .i64 fr, .int .i64 to_, .bool false, .int .i64 L, .int .i64 (lastOf (ms.take q) L)] 29) (fun i _ => p - (intOf i).toNat)
            case atStart => exact ⟨0, Nat.zero_le _, rfl, HK7.out, HB7.out⟩
            case round =>
              obtain ⟨q, hq, rfl, hkq, hbq⟩ := hrel
              have HKq := Lib.hid hkq
              have HBq := Lib.hid hbq
              by_cases hql : q < p
              · obtain ⟨g, rfl, hgw, hgl⟩ := HGm.out (by have := HPe.out; omega)
                have hrowq := HM.out.row.keep0 hkq
                obtain ⟨⟨fr1, to1, isw1, lba1, val1⟩, hat1⟩ : ∃ c, at_ ms q = c := ⟨_, rfl⟩
                have hcl := fun z (hz : z < 5) => hrowq.cell (i := q) (q := z) (by have := HPe.out; omega) hz
                rw [hat1] at hcl
                have k2 : wr.cell? ⟨g, q * 5 + 2, none⟩ = some (.bool isw1) := hcl 2 (by omega)
                have k3 : wr.cell? ⟨g, q * 5 + 3, none⟩ = some (.int .i64 lba1) := hcl 3 (by omega)
                have k4 : wr.cell? ⟨g, q * 5 + 4, none⟩ = some (.int .i64 val1) := hcl 4 (by omega)
                have p3 : wr.cell? ⟨gc, 3, none⟩ = some (.int .i64 L) := hbq.cell 3
                have p4 : wr.cell? ⟨gc, 4, none⟩ = some (.int .i64 (lastOf (ms.take q) L)) := hbq.cell 4
                have f4 : wr.frozen? ⟨gc, 4, none⟩ = false := hbq.free 4
                have hgcl := hbq.lt
                have hlast : lastOf (ms.take (q + 1)) L = if isw1 && decide (lba1 = L) then val1 else lastOf (ms.take q) L := by
                  rw [take_next ms q (by have := HPe.out; omega), lastOf_snoc, hat1]
                clear hkq hbq hrowq hcl hat1
                cases isw1 with
                | false =>
                  have HLs := Lib.hid (show lastOf (ms.take (q + 1)) L = lastOf (ms.take q) L by rw [hlast]; simp)
                  clear hlast
                  go_wp2_with fail
                  go_region
                  go_wp2_with fail
                  go_roundw
                  case rel => exact ⟨q + 1, by omega, by go_num, HKq.out.drew, by rw [HLs.out]; exact HBq.out.drew⟩
                  case measure => simp [intOf]; omega
                | true =>
                  by_cases hlba : lba1 = L
                  · have d1 : (lba1 == L) = true := by simp [hlba]
                    have HLs := Lib.hid (show lastOf (ms.take (q + 1)) L = val1 by rw [hlast]; simp [hlba])
                    clear hlast hlba
                    go_wp2_with fail
                    go_region
                    go_wp2_with fail
                    go_roundw
                    case rel => exact ⟨q + 1, by omega, by go_num, HKq.out.drew.setCell (p := ⟨gc, 4, none⟩) (.inr (by show wl.heap.size ≤ gc; omega)) _, by rw [HLs.out]; exact HBq.out.drew.set 4 _⟩
                    case measure => simp [intOf]; omega
                  · have d1 : (lba1 == L) = false := by simp [hlba]
                    have HLs := Lib.hid (show lastOf (ms.take (q + 1)) L = lastOf (ms.take q) L by rw [hlast]; simp [hlba])
                    clear hlast hlba
                    go_wp2_with fail
                    go_region
                    go_wp2_with fail
                    go_roundw
                    case rel => exact ⟨q + 1, by omega, by go_num, HKq.out.drew, by rw [HLs.out]; exact HBq.out.drew⟩
                    case measure => simp [intOf]; omega
              · obtain rfl : q = p := by omega
                have HLs : Hid (lastOf (ms.take q) L = lastOf ms L ∧ 0 ≤ lastOf ms L ∧ (Lit.int .i64 (lastOf ms L)).wf = true) := by
                  refine ⟨by rw [← HPe.out, List.take_length], ?_⟩
                  refine lastOf_is (P := fun v => 0 ≤ v ∧ (Lit.int .i64 v).wf = true) ⟨by omega, rfl⟩ L ms (fun c hc => ⟨?_, (HM.out.wf c hc).val⟩)
                  have := (HM.out.ser.each c hc).1
                  unfold badNum at this
                  omega
                clear hkq hbq
                go_wp2_with fail
                go_meet
                case rel => exact ⟨rfl, HKq.out, _, HBq.out, .inr HLs.out.1.symm, by rw [HLs.out.1]; exact HLs.out.2.1, by rw [HLs.out.1]; exact HLs.out.2.2⟩
        case rest =>
          obtain ⟨rfl, hkc, val', hbc, hread, hval0, hvalw⟩ := hcut
          have HBc := Lib.hid hbc
          have HKc := Lib.hid hkc
          have HRead := Lib.hid hread
          have HVal := Lib.hid (show 0 ≤ val' ∧ (Lit.int .i64 val').wf = true from ⟨hval0, hvalw⟩)
          have b0 : wc.cell? ⟨gc, 0, none⟩ = some (.int .i64 fr) := hbc.cell 0
          have b1 : wc.cell? ⟨gc, 1, none⟩ = some (.int .i64 to_) := hbc.cell 1
          have f0 : wc.frozen? ⟨gc, 0, none⟩ = false := hbc.free 0
          have f1 : wc.frozen? ⟨gc, 1, none⟩ = false := hbc.free 1
          have e1 : IntKind.i64.wrap (10 * (p : Int)) = 10 * (p : Int) := IntWalk.i64_in _ (by omega)
          have e2 : IntKind.i64.wrap (100 + 10 * (p : Int)) = 100 + 10 * (p : Int) := IntWalk.i64_in _ (by omega)
          have e3 : IntKind.i64.wrap (109 + 10 * (p : Int)) = 109 + 10 * (p : Int) := IntWalk.i64_in _ (by omega)
          clear hbc hkc hread hval0 hvalw
          go_upto_if 101 with (fail)
          have HB8 := Lib.hid ((HBc.out.set 0 (.int .i64 (100 + 10 * (p : Int)))).set 1 (.int .i64 (109 + 10 * (p : Int))))
          have HK8 := Lib.hid ((HKc.out.setCell (p := ⟨gc, 0, none⟩) (.inr (by show wl.heap.size ≤ gc; omega)) (.int .i64 (100 + 10 * (p : Int)))).setCell (p := ⟨gc, 1, none⟩) (.inr (by show wl.heap.size ≤ gc; omega)) (.int .i64 (109 + 10 * (p : Int))))
          clear b0 b1 f0 f1 HBc HKc
          generalize (wc.setCell ⟨gc, 0, none⟩ (.int .i64 (100 + 10 * (p : Int)))).setCell ⟨gc, 1, none⟩ (.int .i64 (109 + 10 * (p : Int))) = w8 at *
          go_cut [10] (fun s10 wx => s10 = .int .i64 p ∧ Keep (fun _ => False) wl wx ∧ ∃ fr', Blk wx gc #[.int .i64 fr', .int .i64 (109 + 10 * (p : Int)), .bool isw, .int .i64 L, .int .i64 val'] 29 ∧ 0 ≤ fr' ∧ fr' ≤ 100 + 10 * (p : Int))
          case first =>
            by_cases hpe : p < el
            · have d1 : decide ((p : Int) < (el : Int)) = true := decide_eq_true (by omega)
              obtain ⟨eb, eoff, rfl, hebl, hec, hx0, hx1⟩ := row_at HE.out hpe (HM.out.keep.trans HK8.out)
              obtain ⟨x, hxe⟩ : ∃ x, ez.getD p 0 = x := ⟨_, rfl⟩
              rw [hxe] at hec hx0 hx1
              have HPk := Lib.hid (fun W => pick_any x 100 W hx0 hx1 (by omega) (by omega))
              have hpk0 := pickOf_0 x 100 (by omega)
              have hpk1 := pickOf_lt x 100 (by omega)
              generalize hpkv : pickOf x 100 = pk at *
              have e4 : IntKind.i64.wrap (100 + 10 * (p : Int) - pk) = 100 + 10 * (p : Int) - pk := IntWalk.i64_in _ (by omega)
              clear hxe hpkv
              go_wp2_with fail
              refine wp_still_tail 9 (by kernel_rfl) (by kernel_rfl) ?_
              intro W hW
              have HKW := Lib.hid (show Keep (fun _ => False) wl W by subst hW; exact HK8.out.drew)
              have HBW := Lib.hid (show Blk W gc _ 29 by subst hW; exact HB8.out.drew)
              have k0 : W.cell? ⟨gc, 0, none⟩ = some (.int .i64 (100 + 10 * (p : Int))) := HBW.out.cell 0
              have x0 : W.cell? ⟨eb, eoff + p, none⟩ = some (.int .i64 x) := by subst hW; exact hec
              have f0 : W.frozen? ⟨gc, 0, none⟩ = false := HBW.out.free 0
              clear hW hec
              simp only [List.take_succ_cons, List.take_zero, List.drop_succ_cons, List.drop_zero]
              iterate 6 still_step
              still_call ((HPk.out W).mono fun e w'' h => ⟨h.1, h.2.symm⟩)
              iterate 2 still_step
              refine wpStill_nil ?_
              go_wp2_with fail
              go_meet
              case rel => exact ⟨rfl, HKW.out.setCell (p := ⟨gc, 0, none⟩) (.inr (by show wl.heap.size ≤ gc; omega)) _, _, (HBW.out.set 0 _), by omega, by omega⟩
            · have d1 : decide ((p : Int) < (el : Int)) = false := decide_eq_false (by omega)
              go_wp2_with fail
              go_meet
              case rel => exact ⟨rfl, HK8.out, _, HB8.out, by omega, by omega⟩
          case rest =>
            rename World => wd
            obtain ⟨rfl, hkd, fr', hbd, hf0, hf1⟩ := hcut
            have HKd := Lib.hid hkd
            have HBd := Lib.hid hbd
            clear hkd hbd HK8 HB8
            go_upto_if 114 with (fail)
            go_cut [10] (fun s10 wx => s10 = .int .i64 p ∧ Keep (fun _ => False) wl wx ∧ ∃ to', Blk wx gc #[.int .i64 fr', .int .i64 to', .bool isw, .int .i64 L, .int .i64 val'] 29 ∧ 109 + 10 * (p : Int) ≤ to' ∧ to' ≤ 1000)
            case first =>
              by_cases hpe : p < ll
              · have d1 : decide ((p : Int) < (ll : Int)) = true := decide_eq_true (by omega)
                obtain ⟨eb, eoff, rfl, hebl, hec, hx0, hx1⟩ := row_at HL.out hpe (HM.out.keep.trans HKd.out)
                obtain ⟨x, hxe⟩ : ∃ x, lz.getD p 0 = x := ⟨_, rfl⟩
                rw [hxe] at hec hx0 hx1
                have HPk := Lib.hid (fun W => pick_any x 100 W hx0 hx1 (by omega) (by omega))
                have hpk0 := pickOf_0 x 100 (by omega)
                have hpk1 := pickOf_lt x 100 (by omega)
                generalize hpkv : pickOf x 100 = pk at *
                have e4 : IntKind.i64.wrap (109 + 10 * (p : Int) + pk) = 109 + 10 * (p : Int) + pk := IntWalk.i64_in _ (by omega)
                clear hxe hpkv
                go_wp2_with fail
                refine wp_still_tail 9 (by kernel_rfl) (by kernel_rfl) ?_
                intro W hW
                have HKW := Lib.hid (show Keep (fun _ => False) wl W by subst hW; exact HKd.out.drew)
                have HBW := Lib.hid (show Blk W gc _ 29 by subst hW; exact HBd.out.drew)
                have k1 : W.cell? ⟨gc, 1, none⟩ = some (.int .i64 (109 + 10 * (p : Int))) := HBW.out.cell 1
                have x0 : W.cell? ⟨eb, eoff + p, none⟩ = some (.int .i64 x) := by subst hW; exact hec
                have f1 : W.frozen? ⟨gc, 1, none⟩ = false := HBW.out.free 1
                clear hW hec
                simp only [List.take_succ_cons, List.take_zero, List.drop_succ_cons, List.drop_zero]
                iterate 6 still_step
                still_call ((HPk.out W).mono fun e w'' h => ⟨h.1, h.2.symm⟩)
                iterate 2 still_step
                refine wpStill_nil ?_
                go_wp2_with fail
                go_meet
                case rel => exact ⟨rfl, HKW.out.setCell (p := ⟨gc, 1, none⟩) (.inr (by show wl.heap.size ≤ gc; omega)) _, _, (HBW.out.set 1 _), by omega, by omega⟩
              · have d1 : decide ((p : Int) < (ll : Int)) = false := decide_eq_false (by omega)
                go_wp2_with fail
                go_meet
                case rel => exact ⟨rfl, HKd.out, _, HBd.out, by omega, by omega⟩
            case rest =>
              rename World => we
              obtain ⟨rfl, hke, to', hbe, ht0, ht1⟩ := hcut
              have HKe := Lib.hid hke
              have HBe := Lib.hid hbe
              have b0 : we.cell? ⟨gc, 0, none⟩ = some (.int .i64 fr') := hbe.cell 0
              have b1 : we.cell? ⟨gc, 1, none⟩ = some (.int .i64 to') := hbe.cell 1
              have b2 : we.cell? ⟨gc, 2, none⟩ = some (.bool isw) := hbe.cell 2
              have b3 : we.cell? ⟨gc, 3, none⟩ = some (.int .i64 L) := hbe.cell 3
              have b4 : we.cell? ⟨gc, 4, none⟩ = some (.int .i64 val') := hbe.cell 4
              have HKw := Lib.hid (HM.out.keep.trans hke)
              have hrow := (HM.out.row.keep0 hke).keep0 (show Keep (fun _ => False) we (we.alloc (.cells #[.int .i64 fr', .int .i64 to', .bool isw, .int .i64 L, .int .i64 val'] 29)) from (Keep.refl _ _).alloc _)
              unfold MRow at hrow
              rw [HPe.out] at hrow
              have HRow := Lib.hid hrow
              have hsz := HKw.out.size
              have HNews := Lib.hid (show ∀ j u, (callCells ⟨fr', to', isw, L, val'⟩)[j]? = some u → (we.alloc (.cells #[.int .i64 fr', .int .i64 to', .bool isw, .int .i64 L, .int .i64 val'] 29)).cell? ((⟨we.heap.size, 0, none⟩ : Addr).add j) = some u from fun j u hj => by
                rw [WideShapes.add_plain, Nat.zero_add]
                exact ((Blk.new we #[.int .i64 fr', .int .i64 to', .bool isw, .int .i64 L, .int .i64 val'] 29).cell j).trans (by rw [← hj]; simp [callCells]))
              clear hke hbe hrow
              go_wp2_with (at_builtin; refine wpList_append_own _ rfl _ _ 22 rfl w.heap.size 29 i0 (.agg #[.int .i64 0, .int .i64 0, .bool false, .int .i64 0, .int .i64 0]) 5 40 Try.underlying22 Hi.out Hz0.out Hz1.out Hz2.out rfl (by decide) (.slice am p cm) p (flat ms) rfl HRow.out ⟨we.heap.size, 0, none⟩ 1 1 (callCells ⟨fr', to', isw, L, val'⟩) rfl rfl HNews.out ?d2 ?d3 ?d4 ?d5 ?d6)
              case d2 => intro u hu; simp [callCells] at hu; rcases hu with rfl | rfl | rfl | rfl | rfl <;> rfl
              case d3 => unfold maxLen; omega
              case d4 => omega
              case d5 => simp; omega
              case d6 =>
                intro v9 w9 hown hgrow _
                have hmade9 : Made w.heap.size w w9 v9 (ms ++ [⟨fr', to', isw, L, val'⟩]) := by
                  have hpe := HPe.out
                  refine ⟨?_, HM.out.ser.snoc (fun a ha => ?_) ⟨?_, ?_⟩ HRead.out, fun c hc => ?_, fun c hc => ?_, (HKw.out.alloc _).grown hgrow (fun k hk => .inr ((HM.out.row.own (by rw [HPe.out]; exact hk)).1))⟩
                  · unfold MRow
                    rw [List.length_append, HPe.out, flat_append, show flat [⟨fr', to', isw, L, val'⟩] = callCells ⟨fr', to', isw, L, val'⟩ by simp [flat]]
                    exact hown
                  · have := HM.out.top a ha
                    show a.fr < to'
                    omega
                  · have := HVal.out.1
                    unfold badNum
                    dsimp only
                    omega
                  · show fr' < to'
                    omega
                  · rcases List.mem_append.1 hc with hc | hc
                    · exact HM.out.wf c hc
                    · simp at hc
                      subst hc
                      exact ⟨show (Lit.int .i64 fr').wf = true from wf_in (by omega) (by omega), show (Lit.int .i64 to').wf = true from wf_in (by omega) (by omega), show (Lit.int .i64 L).wf = true from wf_in (by omega) (by omega), HVal.out.2⟩
                  · rw [List.length_append]
                    simp only [List.length_singleton]
                    rcases List.mem_append.1 hc with hc | hc
                    · have := HM.out.top c hc
                      omega
                    · simp at hc
                      subst hc
                      show fr' < _
                      omega
                have HM9 := Lib.hid hmade9
                have hl9 : (ms ++ [(⟨fr', to', isw, L, val'⟩ : OCall)]).length = p + 1 := by rw [List.length_append, HPe.out]; rfl
                have HL9 := Lib.hid hl9
                clear hown hgrow hmade9 hl9
                go_wp2_with fail
                go_roundw
                case rel => exact ⟨_, by rw [HL9.out]; omega, by rw [HL9.out]; go_num, HM9.out⟩
                case measure => simp [intOf]; omega
      · obtain rfl : p = cs.length := by omega
        have hic := HM.out.row.isCalls (fun i hi => HM.out.wf _ (mem_at hi))
        obtain ⟨hf2, r2, hr2, hfull2, hright2⟩ := HM.out.ser.found (by rw [HPe.out]; omega)
        have HF2 := Lib.hid (order_find wr am cm ms hic (by rw [HPe.out]; omega))
        rw [HPe.out] at HF2
        have HR2 := Lib.hid hr2
        have HFull2 := Lib.hid hfull2
        have HRight2 := Lib.hid hright2
        have HFl2 := Lib.hid hf2
        have HIc := Lib.hid hic
        clear hr2 hfull2 hright2 hf2 hic
        go_wp2_with fail
        refine HF2.out.mono ?_
        rintro e w9 ⟨hk9, hend⟩
        have HK9 := Lib.hid hk9
        obtain ⟨v9, rfl, hv9⟩ : ∃ v, e = .returned (.tuple #[v, .nilIface]) ∧ LAt w9 v r2 := by
          rcases hend with ⟨h, _⟩ | ⟨_, h, _⟩ | ⟨_, r', v, h, he, hv⟩
          · exact absurd HFl2.out h
          · have := HR2.out
            rw [h] at this
            cases this
          · have := HR2.out
            rw [h] at this
            cases this
            exact ⟨v, he, hv⟩
        obtain ⟨va9, vc9, rfl, _⟩ := hv9.form
        have hl9 : r2.length = cs.length := by rw [HFull2.out.len, HPe.out]
        have HRr := Lib.hid (ref_right w9 am cm ms va9 vc9 r2 (HIc.out.keep hk9) hv9 HFull2.out.lt (by rw [HPe.out]; omega) (by omega))
        rw [hl9, HPe.out] at HRr
        rw [hl9]
        clear hk9 hend hv9
        go_wp2_with fail
        refine HRr.out.mono ?_
        rintro e w10 ⟨b, rfl, hb, hk10⟩
        obtain rfl : b = true := hb.2 HRight2.out
        have HK10 := Lib.hid (HK9.out.trans hk10)
        clear hb hk10 HRr HF2 HFl2 HRight2 HFull2 HR2
        go_wp2_with fail
        go_loopw [15] (fun i wq => ∃ q : Nat, q ≤ cs.length ∧ i = .int .i64 q ∧ Keep (fun _ => False) wr wq) (fun i _ => cs.length - (intOf i).toNat)
        case atStart => exact ⟨0, Nat.zero_le _, rfl, HK10.out⟩
        case round =>
          obtain ⟨q, hq, rfl, hkq⟩ := hrel
          have HKq := Lib.hid hkq
          by_cases hql : q < cs.length
          · obtain ⟨g, rfl, hgw, hgl⟩ := HGm.out (by have := HPe.out; omega)
            have hrowq := HM.out.row.keep0 hkq
            obtain ⟨⟨fr1, to1, isw1, lba1, val1⟩, hat1⟩ : ∃ c, at_ ms q = c := ⟨_, rfl⟩
            have hcl := hrowq.cell (i := q) (q := 2) (by have := HPe.out; omega) (by omega)
            rw [hat1] at hcl
            have HAt1 := Lib.hid hat1
            have HRowq := Lib.hid hrowq
            have HKwq := Lib.hid (HM.out.keep.trans hkq)
            clear hkq hrowq hat1
            cases isw1 with
            | true =>
              have k2 : wr.cell? ⟨g, q * 5 + 2, none⟩ = some (.bool true) := hcl
              clear hcl
              go_wp2_with fail
              go_roundw
              case rel => exact ⟨q + 1, by omega, by go_num, HKq.out⟩
              case measure => simp [intOf]; omega
            | false =>
              have k2 : wr.cell? ⟨g, q * 5 + 2, none⟩ = some (.bool false) := hcl
              clear hcl
              rename World => wq
              have hcm : cs.length ≤ cm := by have := HM.out.row.capLe; rw [HPe.out] at this; exact this
              have hqcm : q ≤ cm := by omega
              have HO0 : Hid ((wq.alloc (.cells #[] 29)).ownsRow w.heap.size 29 5 (.slice (some ⟨wq.heap.size, 0, none⟩) 0 0) 0 []) := World.ownsRow_lit wq #[] 0 HKwq.out.size (by decide) rfl
              go_wp2_with (at_builtin; refine wpList_append_any rfl _ _ 22 rfl w.heap.size 29 i0 (.agg #[.int .i64 0, .int .i64 0, .bool false, .int .i64 0, .int .i64 0]) 5 40 Try.underlying22 Hi.out Hz0.out Hz1.out Hz2.out rfl (by decide) (.slice (some ⟨wq.heap.size, 0, none⟩) 0 0) 0 [] rfl HO0.out _ q cm (flat (ms.take q)) rfl ?g1 ?g2 ?g3 (flat_one _) ?g4 ?g5 ?g6 ?g7)
              case g1 => intro h; cases h
              case g2 => rw [flat_length, List.length_take, HPe.out]; omega
              case g3 =>
                intro b hb j u hj
                cases hb
                have := (HRowq.out.keep0 (show Keep (fun _ => False) wq (wq.alloc (.cells #[] 29)) from (Keep.refl _ _).alloc _)).part 0 q j u (by rw [List.drop_zero]; exact hj)
                rw [Nat.zero_mul] at this
                rw [WideShapes.add_plain]
                exact this
              case g4 => unfold maxLen; omega
              case g5 => omega
              case g6 => have := HKwq.out.size; simp; omega
              case g7 =>
                intro v16 w16 hown hgrow _
                have HOwn := Lib.hid hown
                have HK16 := Lib.hid (show Keep (fun _ => False) wq w16 from ((Keep.refl _ _).alloc _).grown hgrow (fun k hk => .inr (by simp [Value.ownBlock] at hk; omega)))
                have e5 : IntKind.i64.wrap ((q : Int) + 1) = (q : Int) + 1 := IntWalk.i64_in _ (by omega)
                have hq1 : q + 1 ≤ cs.length := by omega
                have hq2 : q + 1 ≤ cm := by omega
                clear hown hgrow
                go_wp2_with (at_builtin; refine wpList_append_any rfl _ _ 22 rfl w.heap.size 29 i0 (.agg #[.int .i64 0, .int .i64 0, .bool false, .int .i64 0, .int .i64 0]) 5 40 Try.underlying22 Hi.out Hz0.out Hz1.out Hz2.out rfl (by decide) v16 q (flat (ms.take q)) rfl HOwn.out _ (cs.length - (q + 1)) (cm - (q + 1)) (flat (ms.drop (q + 1))) rfl ?k1 ?k2 ?k3 (flat_one _) ?k4 ?k5 ?k6 ?k7)
                case k2 => rw [flat_length, List.length_drop, HPe.out]
                case k3.inl | k3.inr =>
                  intro j u hj
                  have hrow16 := HRowq.out.keep0 HK16.out
                  have hjl : j < (ms.drop (q + 1)).length * 5 := by have := (List.getElem?_eq_some_iff.1 hj).1; rw [flat_length] at this; exact this
                  rw [List.length_drop, HPe.out] at hjl
                  first
                    | (exfalso; omega)
                    | exact hrow16.part (q + 1) (ms.drop (q + 1)).length j u (by rw [List.take_length]; exact hj)
                case k4 => unfold maxLen; omega
                case k5 => omega
                case k6 => have := HKwq.out.size; have := HK16.out.size; omega
                case k7.inl | k7.inr =>
                  intro v17 w17 hown hgrow hz
                  clear hz
                  obtain ⟨rest, hrest⟩ : ∃ rest, ms.take q ++ ms.drop (q + 1) = rest := ⟨_, rfl⟩
                  have hrl : rest.length = q + (cs.length - (q + 1)) := by rw [← hrest, List.length_append, List.length_take, List.length_drop, HPe.out]; omega
                  have hrow17 : MRow w.heap.size w17 v17 rest := by
                    unfold MRow
                    rw [hrl, ← hrest, flat_append]
                    exact hown
                  have HK17 := Lib.hid (show Keep (fun _ => False) w w17 from ((HKwq.out.trans HK16.out).grown hgrow (fun k hk => .inr (by
                    rcases HOwn.out.2 with ⟨e, _⟩ | ⟨g', cap', cur, e, h1, _⟩
                    · subst e; cases hk
                    · subst e; cases hk; exact h1))))
                  have hsplit : ms = ms.take q ++ at_ ms q :: ms.drop (q + 1) := by
                    have hqm : q < ms.length := by rw [HPe.out]; omega
                    have e : at_ ms q = ms[q] := by simp [at_, List.getD, hqm]
                    rw [e, ← List.drop_eq_getElem_cons hqm, List.take_append_drop]
                  have hser : Ser rest := by
                    rw [← hrest]
                    refine Ser.erase (r := at_ ms q) ?_ (by rw [HAt1.out])
                    rw [← hsplit]
                    exact HM.out.ser
                  obtain ⟨hf3, r3, hr3, hx1, hx2⟩ := hser.found (by omega)
                  clear hx1 hx2
                  have hwf3 : ∀ c ∈ rest, CallWf c := fun c hc => by
                    rw [← hrest] at hc
                    rcases List.mem_append.1 hc with hc | hc
                    · exact HM.out.wf c (List.mem_of_mem_take hc)
                    · exact HM.out.wf c (List.mem_of_mem_drop hc)
                  obtain ⟨a17, c17, rfl, hx3⟩ := hrow17.form
                  clear hx3 h
                  have HF3 := Lib.hid (order_find w17 a17 c17 rest (hrow17.isCalls (fun i hi => hwf3 _ (mem_at hi))) (by omega))
                  have HEnd3 : Hid (∀ e w', FindEnd rest w17 e w' → Keep (fun _ => False) w17 w' ∧ ∃ v, e = .returned (.tuple #[v, .nilIface])) := fun e w' hend => by
                    rcases hend with ⟨hk, ⟨h, _⟩ | ⟨_, h, _⟩ | ⟨_, r', v, h, he, hv⟩⟩
                    · exact absurd hf3 h
                    · rw [h] at hr3
                      cases hr3
                    · exact ⟨hk, v, he⟩
                  generalize rest.length = rl at *
                  clear hown hgrow hrow17 hsplit hser hf3 hr3 hwf3 hrest hrl hq1 hq2 e5 hcm hqcm k2 HIc HKq HPe HOwn HRowq HO0
                  go_wp2_with fail
                  refine HF3.out.mono ?_
                  intro e w18 hend
                  obtain ⟨hk18, v18, rfl⟩ := HEnd3.out e w18 hend
                  have HK18 := Lib.hid (HK17.out.trans hk18)
                  clear hk18 hend HF3
                  go_wp2_with fail
                  go_ret
                  exact ⟨rfl, HB.out _ HK18.out⟩
          · obtain rfl : q = cs.length := by omega
            have HKwq := Lib.hid (HM.out.keep.trans hkq)
            clear hkq
            go_wp2_with fail
            go_ret
            exact ⟨rfl, HB.out _ HKwq.out⟩
end Ord
end Go.Proofs.Ytnjcmhpifdaheaa
