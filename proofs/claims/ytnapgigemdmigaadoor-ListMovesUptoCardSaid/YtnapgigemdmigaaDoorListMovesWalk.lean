/- granarylaw3.ListMoves returns true, and writes nothing that was there (where the segments are not too many). -/
import Derived.Test.YtnapgigemdmigaaDoorScatter
import Derived.Test.YtnapgigemdmigaaDoorSegRow
import Derived.Test.YtnapgigemdmigaaDoorListWalksWalk
import Derived.Test.YtnapgigemdmigaaDoorFitsRef
import Derived.Test.YtnapgigemdmigaaDoorTold
import Derived.Test.YtnapgigemdmigaaDoorBase3
import Derived.Test.YtnapgigemdmigaaDoorChain
import Derived.Test.YtnapgigemdmigaaDoorOpsRd
import Derived.StillTailTactics
import Derived.BigRegion
import Derived.Deep.DeepCutAuto
namespace Go.Proofs.YtnapgigemdmigaaDoor
open Go.RowKit Go.WideShapes
set_option linter.unusedVariables false

def movRun : List (Int × Int) → Int → Bool → Int × Bool
  | [], left, sh => (left, sh)
  | s :: t, left, sh => if left < s.2 then movRun t left true else if 0 < s.2 then movRun t (left - s.2) sh else movRun t left sh
theorem movRun_true : ∀ (segs : List (Int × Int)) (left : Int), (movRun segs left true).2 = true
  | [], _ => rfl
  | s :: t, left => by
    rw [movRun]
    split
    · exact movRun_true t _
    · split <;> exact movRun_true t _
theorem movRun_scat : ∀ (segs : List (Int × Int)) (left : Int), 0 ≤ left → ((movRun segs left false).2 = false → scatRun segs left = some (movRun segs left false).1) ∧ ((movRun segs left false).2 = true → scatRun segs left = none)
  | [], left, _ => ⟨fun _ => rfl, fun h => by cases h⟩
  | s :: t, left, h0 => by
    rw [movRun, scatRun]
    by_cases h1 : left < s.2
    · rw [if_pos h1, if_pos (show left < max s.2 0 by omega)]
      exact ⟨(fun h => by rw [movRun_true] at h; cases h), fun _ => rfl⟩
    · rw [if_neg h1, if_neg (show ¬ left < max s.2 0 by omega)]
      by_cases h2 : 0 < s.2
      · rw [if_pos h2, show max s.2 0 = s.2 by omega]
        exact movRun_scat t _ (by omega)
      · rw [if_neg h2, show max s.2 0 = 0 by omega, Int.sub_zero]
        exact movRun_scat t _ h0

theorem rdB_any {w : World} {base : Nat} {v : Value} {xs : List Int} (h : w.ownsRow base 5 1 v xs.length (xs.map (Value.int .u8))) : ∃ a c, v = .slice a xs.length c ∧ RdB w a xs := by
  by_cases h0 : xs.length = 0
  · obtain ⟨_, ⟨rfl, _⟩ | ⟨g, cap, cur, rfl, _⟩⟩ := h
    · exact ⟨none, 0, by rw [h0], .inl h0⟩
    · exact ⟨_, cap, rfl, .inl h0⟩
  · obtain ⟨g, cap, rfl, _⟩ := own_form h (by omega)
    exact ⟨_, cap, rfl, RdB.own h rfl⟩
theorem hrdB_below {w w' : World} {a : Option Addr} {xs : List Int} (h : RdB w a xs) (hb : Below w.heap.size w w') : RdB w' a xs := by
  rcases h with h | ⟨b, off, e1, e2⟩
  · exact .inl h
  · exact .inr ⟨b, off, e1, fun i hi => below_cell_some hb (e2 i hi)⟩

theorem newsArg {w : World} {a : Option Addr} {xs : List Int} {o : Obj} (h : RdB w a xs) : ∀ b, a = some b → ∀ j u, (xs.map (Value.int .u8))[j]? = some u → (w.alloc o).cell? (b.add j) = some u := by
  intro ad had j u hj
  obtain ⟨x, h1, rfl⟩ : ∃ x, xs[j]? = some x ∧ u = Value.int .u8 x := by
    rw [List.getElem?_map, Option.map_eq_some_iff] at hj
    obtain ⟨x, h1, h2⟩ := hj
    exact ⟨x, h1, h2.symm⟩
  have hjl : j < xs.length := (List.getElem?_eq_some_iff.1 h1).1
  rcases h with h0 | ⟨db, doff, h2, h3⟩
  · omega
  · rw [h2] at had
    cases had
    have hcc := h3 j hjl
    refine Lib.cell?_alloc_some _ ?_
    rw [WideShapes.add_plain, hcc]
    simp [List.getD, h1]

theorem gatherRes_fits (bs : List Int) : ∀ (segs : List (Int × Int)) (acc ds : List Int), gatherRes bs segs acc = some ds → ∀ s ∈ segs, memFits bs.length s.1 s.2 = true
  | [], _, _, _, s, hs => by cases hs
  | t :: r, acc, ds, h, s, hs => by
    rw [gatherRes] at h
    split at h
    · next hf =>
      rcases List.mem_cons.1 hs with rfl | hs
      · exact hf
      · exact gatherRes_fits bs r _ ds h s hs
    · cases h
/-- the law's own bytes in the making: i segments are put -/
structure MovPut (xs : List Int) (segs : List (Int × Int)) (ys : List Int) (g cg : Nat) (wB w0 : World) (i at0 : Nat) (cur : List Int) (wr : World) : Prop where
  le : i ≤ segs.length
  al : at0 ≤ ys.length
  len : cur.length = xs.length
  own : wr.ownsRow wB.heap.size 5 1 (.slice (some ⟨g, 0, none⟩) xs.length cg) xs.length (cur.map (Value.int .u8))
  keep : Keep (· = g) w0 wr
  mem : scatMem cur (segs.drop i) (ys.drop at0) = scatMem xs segs ys
  run : scatRun (segs.drop i) ((ys.length : Int) - at0) = some 0

structure MovInv (xs : List Int) (segs : List (Int × Int)) (M : Int × Bool) (G : Option (List Int)) (L : Nat) (w0 : World) (k : Nat) (v : Value) (acc : List Int) (left : Int) (sh : Bool) (ee : Int) (wr : World) : Prop where
  le : k ≤ segs.length
  sz : acc.length ≤ k * 16384
  l0 : 0 ≤ left
  l1 : left ≤ L
  own : wr.ownsRow w0.heap.size 5 1 v acc.length (acc.map (Value.int .u8))
  bel : Below w0.heap.size w0 wr
  mov : movRun (segs.drop k) left sh = M
  ok : ee = 0 → gatherRes xs (segs.drop k) acc = G
  bad : ee ≠ 0 → ee = 1 ∧ G = none

set_option maxRecDepth 100000 in
set_option maxHeartbeats 16000000 in
theorem listMoves_walk (w : World) (hg : Laid w) (a : Option Addr) (len cap : Nat) (z : List Int) (hz : IsRow .u8 1 w a len cap z) (a1 : Option Addr) (len1 cap1 : Nat) (zz : Nat → Nat → Int) (hp : IsPairs w a1 len1 zz) (hsmall : len1 ≤ 4294967296)
    (a2 : Option Addr) (len2 cap2 : Nat) (z2 : List Int) (hz2 : IsRow .u8 1 w a2 len2 cap2 z2) :
    Calls Tryd.prog 4 #[.slice a len cap, .slice a1 len1 cap1, .slice a2 len2 cap2] w fun e w' => e = .returned (.bool true) ∧ Below w.heap.size w w' := by
  have hcap := hz.capLe
  have hcap2 := hz2.capLe
  have hnone : a = none → len = 0 ∧ cap = 0 := fun e => by
    rcases hz with ⟨_, h1, h2, _⟩ | ⟨x, h1, _⟩
    · exact ⟨h1, h2⟩
    · rw [e] at h1; cases h1
  have hform : a = none ∨ cap = 0 ∨ ∃ bb boff, a = some ⟨bb, boff, none⟩ := by
    rcases hz with ⟨h, _⟩ | ⟨x, rfl, h1, h2, h3, h4, h5, h6⟩
    · exact .inl h
    · by_cases hc0 : cap = 0
      · exact .inr (.inl hc0)
      · have c0 := h5 0 (by omega)
        obtain ⟨db, doff, spot⟩ := x
        have hspot : spot = none := by simpa [Addr.add] using World.cell?_spot c0
        subst hspot
        exact .inr (.inr ⟨db, doff, rfl⟩)
  obtain ⟨xs, rfl, xl, xb, hx⟩ := hz.bytes
  obtain ⟨segs, hsl, hswf, hsr⟩ : ∃ segs : List (Int × Int), segs.length = len1 ∧ (∀ s ∈ segs, (-9223372036854775808 ≤ s.1 ∧ s.1 ≤ 9223372036854775807) ∧ -9223372036854775808 ≤ s.2 ∧ s.2 ≤ 9223372036854775807) ∧ SegRd w a1 segs := by
    refine ⟨(List.range len1).map (fun i => (zz i 0, zz i 1)), by simp, ?_, ?_⟩
    · intro s hs
      obtain ⟨i, hi, rfl⟩ := List.mem_map.1 hs
      have hi' := List.mem_range.1 hi
      obtain ⟨b, off, _, _, _, _, h6⟩ := hp.resolve_left (by omega)
      exact ⟨bounds_i64 (h6 i 0 hi' (by omega)), bounds_i64 (h6 i 1 hi' (by omega))⟩
    · rcases hp with h | ⟨b, off, e1, e2, e3, e4, _⟩
      · exact .inl (by simpa using h)
      · refine .inr ⟨b, off, e1, e3, fun i hi => ?_⟩
        have hi' : i < len1 := by simpa using hi
        have h1 := e4 i 0 hi' (by omega)
        have h2 := e4 i 1 hi' (by omega)
        simp only [Nat.add_zero] at h1
        simp [List.getD, hi', h1, h2]
  subst hsl
  have Xb := Lib.hid xb
  have Hx := Lib.hid hx
  have HSw := Lib.hid hswf
  have HSR := Lib.hid hsr
  have HG := Lib.hid hg
  have hpos := hg.pos
  have HNone := Lib.hid hnone
  have HForm := Lib.hid hform
  clear xb hx hp hg hnone hz hswf hsr hform
  by_cases hbig : 16384 < xs.length
  · have HF := Lib.hid (filled_big a xs.length cap w hbig (by omega))
    go_enter Tryd.func4, Tryd.ntmps4
    go_wp2_with fail
    refine HF.out.mono ?_
    rintro e w' ⟨rfl, rfl⟩
    have d1 : decide (16384 < (xs.length : Int)) = true := decide_eq_true (by omega)
    clear HF
    go_wp2
    go_ret
    exact ⟨rfl, Below.refl _ _⟩
  have HF := Lib.hid (filled_ok a cap xs w (by omega) (Hx.out _ (Below.refl _ _)) Xb.out)
  obtain ⟨ys, rfl, yl, yb, hy⟩ := hz2.bytes
  have HDat : Hid (∀ w' mb, Below w.heap.size w w' → w.heap.size ≤ mb → Dat w' mb a2 cap2 ys) := fun w' mb hw' hmb => by
    refine ⟨hcap2, ?_⟩
    rcases hz2 with ⟨_, _, h2, _⟩ | ⟨x, rfl, h1, h2, h3, h4, h5, h6⟩
    · exact .inl h2
    · by_cases hc0 : cap2 = 0
      · exact .inl hc0
      · have c0 := h5 0 (by omega)
        obtain ⟨db, doff, spot⟩ := x
        have hspot : spot = none := by simpa [Addr.add] using World.cell?_spot c0
        subst hspot
        have hdl : db < w.heap.size := by have := cell_lt c0; simpa [Addr.add] using this
        refine .inr ⟨db, doff, rfl, by omega, Nat.lt_of_lt_of_le hdl hw'.size, fun i hi => ?_⟩
        rcases hy w' hw' with h0 | ⟨b', off', e1, e2⟩
        · omega
        · cases e1; exact e2 i hi
  have Yb := Lib.hid yb
  clear hz2 hy yb
  obtain ⟨i0, hi, hz0', hz1, hz2⟩ := info_parts (P := Tryd.prog) (e := 5) (z := .int .u8 0) (size := 1) (bytes := 1) (by kernel_rfl)
  have Hi := Lib.hid hi
  have Hz0 := Lib.hid hz0'
  have Hz1 := Lib.hid hz1
  have Hz2 := Lib.hid hz2
  clear hi hz0' hz1 hz2
  go_enter Tryd.func4, Tryd.ntmps4
  go_wp2_with fail
  refine HF.out.mono ?_
  rintro e w1 ⟨rfl, hm, hbel⟩
  have HM := Lib.hid hm
  have HB := Lib.hid hbel
  have hs1 := hbel.size
  have hml := hm.body.lt
  clear hm hbel HF
  obtain ⟨M, hM⟩ : ∃ M, movRun segs ys.length false = M := ⟨_, rfl⟩
  obtain ⟨G, hGq⟩ : ∃ G, gatherRes xs segs [] = G := ⟨_, rfl⟩
  have HI : Hid (MovInv xs segs M G ys.length w1 0 (.slice none 0 0) [] ys.length false 0 w1) :=
    ⟨Nat.zero_le _, by simp, by omega, by omega, World.ownsRow_nil _ _ _ _, Below.refl _ _, hM, fun _ => hGq, fun h => absurd rfl h⟩
  have HMq := Lib.hid hM
  have HGq := Lib.hid hGq
  clear hM hGq
  go_wp2_with fail
  rename World => w2
  go_loopw [9, 10, 11, 12, 13] (fun v e l s i wr => ∃ (k : Nat) (acc : List Int) (left : Int) (sh : Bool) (ee : Int), e = .int .i64 ee ∧ l = .int .i64 left ∧ s = .bool sh ∧ i = .int .i64 k ∧ MovInv xs segs M G ys.length w2 k v acc left sh ee wr) (fun _ _ _ _ i _ => segs.length - (intOf i).toNat)
  case atStart => exact ⟨0, [], ys.length, false, 0, rfl, rfl, rfl, rfl, HI.out⟩
  case round =>
    clear HI
    obtain ⟨k, acc, left, sh, ee, rfl, rfl, rfl, rfl, hi⟩ := hrel
    have hk := hi.le
    have hsz := hi.sz
    have hl0 := hi.l0
    have hl1 := hi.l1
    have HIv := Lib.hid hi
    clear hi
    by_cases hlt : k < segs.length
    · obtain ⟨sb, off, e1, hsb, hcell⟩ := HSR.out.resolve_left (by omega)
      subst e1
      have hbw := HB.out.trans (HIv.out.bel.mono hs1)
      have c1 : wr.cell? ⟨sb, off + k * 2, none⟩ = some (.int .i64 (segs.getD k (0, 0)).1) := (hbw.cell (p := ⟨sb, off + k * 2, none⟩) hsb).trans (hcell k hlt).1
      have c2 : wr.cell? ⟨sb, off + k * 2 + 1, none⟩ = some (.int .i64 (segs.getD k (0, 0)).2) := (hbw.cell (p := ⟨sb, off + k * 2 + 1, none⟩) hsb).trans (hcell k hlt).2
      have hwfk := HSw.out (segs.getD k (0, 0)) (by simp [List.getD, hlt])
      have HMov := Lib.hid (show movRun (segs.getD k (0, 0) :: segs.drop (k + 1)) left sh = M by rw [← drop_getD _ _ _ hlt]; exact HIv.out.mov)
      have HOk := Lib.hid (fun h => show gatherRes xs (segs.getD k (0, 0) :: segs.drop (k + 1)) acc = G by rw [← drop_getD _ _ _ hlt]; exact HIv.out.ok h)
      have HBad := Lib.hid HIv.out.bad
      have HBw := Lib.hid hbw
      clear hcell hbw
      generalize segs.getD k (0, 0) = s at *
      obtain ⟨x, n⟩ := s
      simp only [] at hwfk c1 c2
      obtain ⟨⟨x0, x1⟩, n0, n1⟩ := hwfk
      have i1 : (k : Int) < (segs.length : Int) := by omega
      have HFt := Lib.hid (ref_fits xs.length x n wr (by omega) x0 x1 n0 n1)
      obtain ⟨left', sh', hls, hl0', hl1', hmv'⟩ : ∃ (left' : Int) (sh' : Bool), ((left < n ∧ left' = left ∧ sh' = true) ∨ (¬ left < n ∧ 0 < n ∧ left' = left - n ∧ sh' = sh) ∨ (¬ left < n ∧ ¬ 0 < n ∧ left' = left ∧ sh' = sh)) ∧ 0 ≤ left' ∧ left' ≤ ys.length ∧ movRun (segs.drop (k + 1)) left' sh' = M := by
        have hm := HMov.out
        rw [movRun] at hm
        by_cases h1 : left < n
        · rw [if_pos h1] at hm
          exact ⟨left, true, .inl ⟨h1, rfl, rfl⟩, hl0, hl1, hm⟩
        · rw [if_neg h1] at hm
          by_cases h2 : 0 < n
          · rw [if_pos h2] at hm
            exact ⟨left - n, sh, .inr (.inl ⟨h1, h2, rfl, rfl⟩), by omega, by omega, hm⟩
          · rw [if_neg h2] at hm
            exact ⟨left, sh, .inr (.inr ⟨h1, h2, rfl, rfl⟩), hl0, hl1, hm⟩
      have HMv := Lib.hid hmv'
      clear hmv' HMov
      rename World => wk
      go_upto_if 51 with (fail)
      go_cut [11, 12] (fun s11 s12 wx => s11 = .int .i64 left' ∧ s12 = .bool sh' ∧ wx = wk)
      case first =>
        rcases hls with ⟨h1, rfl, rfl⟩ | ⟨h1, h2, rfl, rfl⟩ | ⟨h1, h2, rfl, rfl⟩
        all_goals
          go_wp2
          go_meet
          case rel => exact ⟨rfl, rfl, rfl⟩
      case rest =>
        obtain ⟨rfl, rfl, rfl⟩ := hcut
        clear hls
        cases hf : memFits xs.length x n with
        | false =>
          rw [hf] at HFt
          have HG1 : Hid (G = none) := by
            by_cases h0 : ee = 0
            · have := HOk.out h0
              rw [gatherRes] at this
              simp only [hf, Bool.false_eq_true, if_false] at this
              exact this.symm
            · exact (HBad.out h0).2
          clear hf
          go_wp2_with fail
          refine HFt.out.mono ?_
          rintro e w' ⟨rfl, rfl⟩
          clear HFt c1 c2
          go_wp2
          go_roundw
          case rel => exact ⟨k + 1, acc, left', sh', 1, rfl, rfl, rfl, by go_num, ⟨by omega, by omega, hl0', hl1', HIv.out.own, HIv.out.bel, HMv.out, fun h => by omega, fun _ => ⟨rfl, HG1.out⟩⟩⟩
          case measure => simp [intOf]; omega
        | true =>
          rw [hf] at HFt
          have hf' := (memFits_iff _ _ _).1 hf
          by_cases h0 : ee = 0
          · subst h0
            have hok := HOk.out rfl
            rw [gatherRes] at hok
            simp only [hf, if_true] at hok
            obtain ⟨p, rfl⟩ := Int.eq_ofNat_of_zero_le hf'.1
            obtain ⟨n, rfl⟩ := Int.eq_ofNat_of_zero_le hf'.2.1
            simp only [Int.toNat_natCast] at hok
            have hpn : p + n ≤ xs.length := by omega
            have HOk2 := Lib.hid hok
            clear hf hf' hok HOk x0 x1 n0 n1
            obtain ⟨news, hnews⟩ : ∃ news, ((xs.drop p).take n).map (Value.int .u8) = news := ⟨_, rfl⟩
            have hnl : ((xs.drop p).take n).length = n := by simp; omega
            have HNl := Lib.hid (show news.length = n * 1 by rw [← hnews, List.length_map, hnl, Nat.mul_one])
            have HN1 : Hid (∀ u ∈ news, u.oneCell' = true) := fun u hu => by rw [← hnews] at hu; obtain ⟨x, _, rfl⟩ := List.mem_map.1 hu; rfl
            have HNews : Hid (∀ W', Below w.heap.size w W' → ∀ ad' : Addr, (0 < n → ∃ bb boff, a = some ⟨bb, boff, none⟩ ∧ ad' = ⟨bb, boff + p, none⟩) → ∀ j u, news[j]? = some u → W'.cell? (ad'.add j) = some u) := fun W' hW' ad' had j u hj => by
              have hjl : j < news.length := (List.getElem?_eq_some_iff.1 hj).1
              have hjn : j < n := by have := HNl.out; omega
              obtain ⟨bb, boff, e1, e2⟩ := had (by omega)
              subst e2
              rcases Hx.out W' hW' with h | ⟨b', off', e3, e4⟩
              · omega
              · rw [e1] at e3
                cases e3
                rw [WideShapes.add_plain, Nat.add_assoc, e4 (p + j) (by omega), ← hj, ← hnews]
                simp [List.getD, List.getElem?_drop, hjn, show p + j < xs.length by omega]
            have HNw := Lib.hid hnews
            have HNl2 := Lib.hid hnl
            have hwa : IntKind.i64.wrap ((p : Int) + (n : Int)) = (p : Int) + (n : Int) := IntWalk.i64_in _ (by omega)
            have hpc1 : p ≤ cap := by omega
            have hpc2 : p + n ≤ cap := by omega
            have hwl := HIv.out.bel.size
            clear hnews hnl
            go_wp2_with fail
            refine HFt.out.mono ?_
            rintro e w' ⟨rfl, rfl⟩
            clear HFt
            go_wp2_with fail
            refine wp_still_tail 15 (by kernel_rfl) (by kernel_rfl) ?_
            intro W hW
            have k1 : W.cell? ⟨sb, off + k * 2, none⟩ = some (.int .i64 (p : Int)) := by subst hW; exact c1
            have k2 : W.cell? ⟨sb, off + k * 2 + 1, none⟩ = some (.int .i64 (n : Int)) := by subst hW; exact c2
            have hbW : Below w2.heap.size w2 W := by subst hW; exact below_drewN HIv.out.bel 1
            have howW := HIv.out.own.drew
            rw [← hW] at howW
            have hsW : w2.heap.size ≤ W.heap.size := hbW.size
            have HbW := Lib.hid hbW
            have HoW := Lib.hid howW
            have HbWw := Lib.hid (HB.out.trans (hbW.mono hs1))
            clear hW c1 c2 hbW howW
            simp only [List.take_succ_cons, List.take_zero, List.drop_succ_cons, List.drop_zero]
            rcases HForm.out with hf1 | hf1 | ⟨bb, boff, hf1⟩
            · have hcp0 := HNone.out hf1
              obtain rfl : p = 0 := by omega
              obtain rfl : n = 0 := by omega
              have hcz := Lib.hid hcp0.2
              have hc00 : cap = 0 := hcp0.2
              clear hcp0
              subst hf1
              subst hc00
              have e0 : IntKind.i64.wrap 0 = 0 := rfl
              iterate 15 still_step
              clear e0
              refine wpStill_nil ?_
              go_wp2_with (at_builtin; refine wpList_append_any rfl _ _ 30 rfl w2.heap.size 5 i0 (.int .u8 0) 1 1 Tryd.underlying30 Hi.out Hz0.out Hz1.out Hz2.out rfl (by decide) _ _ _ rfl HoW.out none 0 _ news rfl (by exact fun _ => ⟨rfl, rfl⟩) HNl.out (fun b hb => HNews.out W HbWw.out b (by intro h; omega)) HN1.out (by unfold maxLen; omega) (by omega) hsW ?_)
              intro v' w6 hown' hgrow _
              have HI2 : Hid (MovInv xs segs M G ys.length w2 (k + 1) v' (acc ++ (xs.drop 0).take 0) left' sh' 0 w6) := ⟨by omega, by rw [List.length_append, HNl2.out]; omega, hl0', hl1', by
                rw [List.map_append, List.length_append, HNl2.out, HNw.out]
                exact hown', HbW.out.grown hgrow hsW (fun q hq => (HoW.out.lt q hq).1), HMv.out, fun _ => HOk2.out, fun h => absurd rfl h⟩
              clear hown' hgrow k1 k2
              go_wp2
              go_roundw
              case rel => exact ⟨k + 1, _, left', sh', 0, rfl, rfl, rfl, by go_num, HI2.out⟩
              case measure => simp [intOf]; omega
            · obtain rfl : p = 0 := by omega
              obtain rfl : n = 0 := by omega
              subst hf1
              cases ha : a with
              | none =>
                subst ha
                have e0 : IntKind.i64.wrap 0 = 0 := rfl
                iterate 15 still_step
                clear e0
                refine wpStill_nil ?_
                go_wp2_with (at_builtin; refine wpList_append_any rfl _ _ 30 rfl w2.heap.size 5 i0 (.int .u8 0) 1 1 Tryd.underlying30 Hi.out Hz0.out Hz1.out Hz2.out rfl (by decide) _ _ _ rfl HoW.out none 0 _ news rfl (by exact fun _ => ⟨rfl, rfl⟩) HNl.out (fun b hb => HNews.out W HbWw.out b (by intro h; omega)) HN1.out (by unfold maxLen; omega) (by omega) hsW ?_)
                intro v' w6 hown' hgrow _
                have HI2 : Hid (MovInv xs segs M G ys.length w2 (k + 1) v' (acc ++ (xs.drop 0).take 0) left' sh' 0 w6) := ⟨by omega, by rw [List.length_append, HNl2.out]; omega, hl0', hl1', by
                  rw [List.map_append, List.length_append, HNl2.out, HNw.out]
                  exact hown', HbW.out.grown hgrow hsW (fun q hq => (HoW.out.lt q hq).1), HMv.out, fun _ => HOk2.out, fun h => absurd rfl h⟩
                clear hown' hgrow k1 k2
                go_wp2
                go_roundw
                case rel => exact ⟨k + 1, _, left', sh', 0, rfl, rfl, rfl, by go_num, HI2.out⟩
                case measure => simp [intOf]; omega
              | some ad =>
                subst ha
                have e0 : IntKind.i64.wrap 0 = 0 := rfl
                iterate 15 still_step
                clear e0
                refine wpStill_nil ?_
                go_wp2_with (at_builtin; refine wpList_append_any rfl _ _ 30 rfl w2.heap.size 5 i0 (.int .u8 0) 1 1 Tryd.underlying30 Hi.out Hz0.out Hz1.out Hz2.out rfl (by decide) _ _ _ rfl HoW.out (some ad) 0 _ news rfl (by intro h; cases h) HNl.out (fun b hb => HNews.out W HbWw.out b (by intro h; omega)) HN1.out (by unfold maxLen; omega) (by omega) hsW ?_)
                intro v' w6 hown' hgrow _
                have HI2 : Hid (MovInv xs segs M G ys.length w2 (k + 1) v' (acc ++ (xs.drop 0).take 0) left' sh' 0 w6) := ⟨by omega, by rw [List.length_append, HNl2.out]; omega, hl0', hl1', by
                  rw [List.map_append, List.length_append, HNl2.out, HNw.out]
                  exact hown', HbW.out.grown hgrow hsW (fun q hq => (HoW.out.lt q hq).1), HMv.out, fun _ => HOk2.out, fun h => absurd rfl h⟩
                clear hown' hgrow k1 k2
                go_wp2
                go_roundw
                case rel => exact ⟨k + 1, _, left', sh', 0, rfl, rfl, rfl, by go_num, HI2.out⟩
                case measure => simp [intOf]; omega
            · subst hf1
              by_cases hcp : cap = p
              · obtain rfl : n = 0 := by omega
                subst hcp
                have e0 : IntKind.i64.wrap (cap : Int) = (cap : Int) := IntWalk.i64_in _ (by omega)
                iterate 15 still_step
                clear e0
                refine wpStill_nil ?_
                go_wp2_with (at_builtin; refine wpList_append_any rfl _ _ 30 rfl w2.heap.size 5 i0 (.int .u8 0) 1 1 Tryd.underlying30 Hi.out Hz0.out Hz1.out Hz2.out rfl (by decide) _ _ _ rfl HoW.out (some ⟨bb, boff, none⟩) 0 _ news rfl (by intro h; cases h) HNl.out (fun b hb => HNews.out W HbWw.out b (by intro h; omega)) HN1.out (by unfold maxLen; omega) (by omega) hsW ?_)
                intro v' w6 hown' hgrow _
                have HI2 : Hid (MovInv xs segs M G ys.length w2 (k + 1) v' (acc ++ (xs.drop cap).take 0) left' sh' 0 w6) := ⟨by omega, by rw [List.length_append, HNl2.out]; omega, hl0', hl1', by
                  rw [List.map_append, List.length_append, HNl2.out, HNw.out]
                  exact hown', HbW.out.grown hgrow hsW (fun q hq => (HoW.out.lt q hq).1), HMv.out, fun _ => HOk2.out, fun h => absurd rfl h⟩
                clear hown' hgrow k1 k2
                go_wp2
                go_roundw
                case rel => exact ⟨k + 1, _, left', sh', 0, rfl, rfl, rfl, by go_num, HI2.out⟩
                case measure => simp [intOf]; omega
              · have hlt2 : p < cap := by omega
                have t1 : ((p : Int) + (n : Int)).toNat = p + n := by omega
                have t2 : (0 : Int) ≤ (p : Int) + (n : Int) := by omega
                have t3 : (p : Int) + (n : Int) ≤ (cap : Int) := by omega
                have t4 : p ≤ p + n := by omega
                iterate 15 still_step
                clear t1 t2 t3 t4
                refine wpStill_nil ?_
                go_wp2_with (at_builtin; refine wpList_append_any rfl _ _ 30 rfl w2.heap.size 5 i0 (.int .u8 0) 1 1 Tryd.underlying30 Hi.out Hz0.out Hz1.out Hz2.out rfl (by decide) _ _ _ rfl HoW.out (some ⟨bb, boff + p, none⟩) n _ news rfl (by intro h; cases h) HNl.out (fun b hb => HNews.out W HbWw.out b (by exact fun _ => ⟨bb, boff, rfl, (Option.some.inj hb).symm⟩)) HN1.out (by unfold maxLen; omega) (by omega) hsW ?_)
                intro v' w6 hown' hgrow _
                have HI2 : Hid (MovInv xs segs M G ys.length w2 (k + 1) v' (acc ++ (xs.drop p).take n) left' sh' 0 w6) := ⟨by omega, by rw [List.length_append, HNl2.out]; omega, hl0', hl1', by
                  rw [List.map_append, List.length_append, HNl2.out, HNw.out]
                  exact hown', HbW.out.grown hgrow hsW (fun q hq => (HoW.out.lt q hq).1), HMv.out, fun _ => HOk2.out, fun h => absurd rfl h⟩
                clear hown' hgrow k1 k2
                go_wp2
                go_roundw
                case rel => exact ⟨k + 1, _, left', sh', 0, rfl, rfl, rfl, by go_num, HI2.out⟩
                case measure => simp [intOf]; omega
          · have HB1 := Lib.hid (HBad.out h0)
            have d1 : (ee == 0) = false := by simp; exact h0
            have HH0 := Lib.hid h0
            clear hf hf' h0
            go_wp2_with fail
            refine HFt.out.mono ?_
            rintro e w' ⟨rfl, rfl⟩
            clear HFt c1 c2
            go_wp2
            go_roundw
            case rel => exact ⟨k + 1, acc, left', sh', ee, rfl, rfl, rfl, by go_num, ⟨by omega, by omega, hl0', hl1', HIv.out.own, HIv.out.bel, HMv.out, fun h => absurd h HH0.out, fun _ => HB1.out⟩⟩
            case measure => simp [intOf]; omega
    · obtain rfl : k = segs.length := by omega
      have hmv := HIv.out.mov
      rw [List.drop_length] at hmv
      have hM : movRun segs ys.length false = (left, sh) := by rw [HMq.out, ← hmv]; rfl
      have hsc := movRun_scat segs ys.length (by omega)
      rw [hM] at hsc
      have HSc := Lib.hid hsc
      have hgo := HIv.out.ok
      rw [List.drop_length] at hgo
      have hgb := HIv.out.bad
      obtain ⟨av, cv, hv, hrd⟩ := rdB_any HIv.out.own
      have HRdW := Lib.hid hrd
      have HBk := Lib.hid HIv.out.bel
      have HSRk := Lib.hid (HSR.out.below (HB.out.trans (HIv.out.bel.mono hs1)))
      have HMk := Lib.hid (HM.out.below HIv.out.bel)
      have hsz2 := HIv.out.bel.size
      have hGa := gather_any (w.heap.size + 1) w.heap.size xs a1 cap1 segs wr HMk.out HSRk.out HSw.out (by omega)
      rw [HGq.out] at hGa
      have HGa := Lib.hid hGa
      have hee : ee = 0 ∨ ee = 1 := by
        by_cases h : ee = 0
        · exact .inl h
        · exact .inr (hgb h).1
      have HV := Lib.hid hv
      have hsegl : segs.length * 16384 ≤ 70368744177664 := by omega
      clear hmv hM hsc hrd hGa hv
      rcases hee with rfl | rfl
      · have hG0 : some acc = G := hgo rfl
        have HG0 := Lib.hid hG0
        rw [← hG0] at HGa
        clear hgo hgb hG0
        rw [HV.out]
        go_wp2_with fail
        refine HGa.out.mono ?_
        rintro e w4 ⟨hb4, v4, rfl, ho4⟩
        obtain ⟨a4, c4, rfl, hr4⟩ := rdB_any ho4
        have hrdw4 : RdB w4 av acc := hrdB_below HRdW.out hb4
        have HSame := Lib.hid (fun c c' => bytes_same a4 av c c' acc w4 hr4 hrdw4 (by omega))
        have HB4 := Lib.hid (HBk.out.trans (hb4.mono hsz2))
        clear hb4 ho4 hr4 hrdw4 HGa
        go_wp2_with fail
        refine (error_nil 0 w4).mono ?_
        rintro e w' ⟨rfl, rfl⟩
        go_wp2_with fail
        refine (HSame.out _ _).mono ?_
        rintro e w5 ⟨rfl, q5, rfl⟩
        have HB5 := Lib.hid (below_drewN HB4.out q5)
        clear HSame HB4
        generalize w4.drewN q5 = w5 at *
        have HM5 := Lib.hid (HM.out.below HB5.out)
        have hs5 := HB5.out.size
        have HB5w := Lib.hid (HB.out.trans (HB5.out.mono hs1))
        have HSR5 := Lib.hid (HSR.out.below HB5w.out)
        have HSca := Lib.hid (scatter_any (w.heap.size + 1) w.heap.size xs a1 cap1 segs a2 cap2 ys w5 HM5.out HSR5.out HSw.out (by omega) (by omega) (HDat.out w5 w.heap.size HB5w.out (Nat.le_refl _)) (fun h0 sb off e => by
          rcases HSR.out with h | ⟨sb', off', e1, e2, _⟩
          · omega
          · rw [e1] at e; cases e; omega) Yb.out)
        go_wp2_with fail
        by_cases hshb : sh = true
        · subst hshb
          have hns : ¬ scatRun segs ys.length = some 0 := fun h => by rw [(HSc.out).2 rfl] at h; cases h
          refine HSca.out.mono ?_
          rintro e w6 hend
          have hend2 := hend.resolve_left (fun h => hns h.1)
          have hbel6 := hend2.1
          obtain ⟨_, rfl⟩ := hend2.2.resolve_right (fun h => hns h.1)
          clear hend2 hns
          unfold shapeErr
          have HM6 := Lib.hid (HM5.out.below hbel6)
          have HB6w := Lib.hid (HB5w.out.trans (hbel6.mono HB5w.out.size))
          have hs6 := HB6w.out.size
          clear hend hbel6 HSca
          have HOwn := Lib.hid (World.ownsRow_made (base := w6.heap.size) (e := 5) (size := 1) w6 #[] 0 (Nat.le_refl _) (Nat.zero_le _) rfl)
          go_wp2_with (at_builtin; refine wpList_append_any rfl _ _ 30 rfl w6.heap.size 5 i0 (.int .u8 0) 1 1 Tryd.underlying30 Hi.out Hz0.out Hz1.out Hz2.out rfl (by decide) _ _ _ rfl HOwn.out a xs.length cap (xs.map (Value.int .u8)) rfl HNone.out (by simp) (newsArg (Hx.out w6 HB6w.out)) (by intro u hu; obtain ⟨x, _, rfl⟩ := List.mem_map.1 hu; rfl) (by unfold maxLen; omega) (by omega) (by simp) ?_)
          intro v' w7 hown' hgrow hnil
          have hb7 : Below w6.heap.size w6 w7 := ((Below.refl _ w6).alloc (Nat.le_refl _) _).grown hgrow (by simp) (fun k hk => by simp [Value.ownBlock] at hk; omega)
          have hown7 : w7.ownsRow w6.heap.size 5 1 v' xs.length (xs.map (Value.int .u8)) := hown'
          obtain ⟨aa, ca, rfl, hra⟩ := rdB_any hown7
          have HRa := Lib.hid hra
          have HM7 := Lib.hid (HM6.out.below hb7)
          have HB7 := Lib.hid (HB6w.out.trans (hb7.mono hs6))
          have hs7 := HB7.out.size
          clear hown' hgrow hnil hb7 hown7 hra HOwn
          have EH := Lib.hid (error_hit 2 2 w7 (HG.out.below hpos HB7.out))
          unfold errV at EH
          go_wp2_with fail
          refine EH.out.mono ?_
          rintro e w8 ⟨rfl, hb8⟩
          have HM8 := Lib.hid (HM7.out.below hb8)
          have HRa8 := Lib.hid (hrdB_below HRa.out hb8)
          have HB8 := Lib.hid (HB7.out.trans (hb8.mono hs7))
          have hs8 := HB8.out.size
          clear hb8 EH
          have HRead := Lib.hid (mem_read_ok (w.heap.size + 1) w.heap.size xs 0 xs.length w8 HM8.out (by omega))
          go_wp2_with fail
          refine HRead.out.mono ?_
          rintro e w9 ⟨g9, c9, rfl, ho9, hb9⟩
          rw [List.drop_zero, List.take_of_length_le (Nat.le_refl _)] at ho9
          have HB9 := Lib.hid (HB8.out.trans (hb9.mono hs8))
          have HSame2 := Lib.hid (fun c c' => bytes_same (some ⟨g9, 0, none⟩) aa c c' xs w9 (RdB.own ho9 rfl) (hrdB_below HRa8.out hb9) (by omega))
          clear ho9 hb9 HRead
          go_wp2_with fail
          refine (HSame2.out _ _).mono ?_
          rintro e w10 ⟨rfl, q10, rfl⟩
          clear HSame2
          go_wp2
          go_ret
          exact ⟨by simp, below_drewN HB9.out q10⟩
        · have hshf : sh = false := by simpa using hshb
          subst hshf
          clear hshb
          by_cases hlp : 0 < left
          · have hns : ¬ scatRun segs ys.length = some 0 := fun h => by
              have h2 := (HSc.out).1 rfl
              rw [h] at h2
              have h3 : (0 : Int) = left := Option.some.inj h2
              omega
            refine HSca.out.mono ?_
            rintro e w6 hend
            have hend2 := hend.resolve_left (fun h => hns h.1)
            have hbel6 := hend2.1
            obtain ⟨_, rfl⟩ := hend2.2.resolve_right (fun h => hns h.1)
            clear hend2 hns
            unfold shapeErr
            have HM6 := Lib.hid (HM5.out.below hbel6)
            have HB6w := Lib.hid (HB5w.out.trans (hbel6.mono HB5w.out.size))
            have hs6 := HB6w.out.size
            clear hend hbel6 HSca
            have HOwn := Lib.hid (World.ownsRow_made (base := w6.heap.size) (e := 5) (size := 1) w6 #[] 0 (Nat.le_refl _) (Nat.zero_le _) rfl)
            go_wp2_with (at_builtin; refine wpList_append_any rfl _ _ 30 rfl w6.heap.size 5 i0 (.int .u8 0) 1 1 Tryd.underlying30 Hi.out Hz0.out Hz1.out Hz2.out rfl (by decide) _ _ _ rfl HOwn.out a xs.length cap (xs.map (Value.int .u8)) rfl HNone.out (by simp) (newsArg (Hx.out w6 HB6w.out)) (by intro u hu; obtain ⟨x, _, rfl⟩ := List.mem_map.1 hu; rfl) (by unfold maxLen; omega) (by omega) (by simp) ?_)
            intro v' w7 hown' hgrow hnil
            have hb7 : Below w6.heap.size w6 w7 := ((Below.refl _ w6).alloc (Nat.le_refl _) _).grown hgrow (by simp) (fun k hk => by simp [Value.ownBlock] at hk; omega)
            have hown7 : w7.ownsRow w6.heap.size 5 1 v' xs.length (xs.map (Value.int .u8)) := hown'
            obtain ⟨aa, ca, rfl, hra⟩ := rdB_any hown7
            have HRa := Lib.hid hra
            have HM7 := Lib.hid (HM6.out.below hb7)
            have HB7 := Lib.hid (HB6w.out.trans (hb7.mono hs6))
            have hs7 := HB7.out.size
            clear hown' hgrow hnil hb7 hown7 hra HOwn
            have EH := Lib.hid (error_hit 2 2 w7 (HG.out.below hpos HB7.out))
            unfold errV at EH
            go_wp2_with fail
            refine EH.out.mono ?_
            rintro e w8 ⟨rfl, hb8⟩
            have HM8 := Lib.hid (HM7.out.below hb8)
            have HRa8 := Lib.hid (hrdB_below HRa.out hb8)
            have HB8 := Lib.hid (HB7.out.trans (hb8.mono hs7))
            have hs8 := HB8.out.size
            clear hb8 EH
            have HRead := Lib.hid (mem_read_ok (w.heap.size + 1) w.heap.size xs 0 xs.length w8 HM8.out (by omega))
            go_wp2_with fail
            refine HRead.out.mono ?_
            rintro e w9 ⟨g9, c9, rfl, ho9, hb9⟩
            rw [List.drop_zero, List.take_of_length_le (Nat.le_refl _)] at ho9
            have HB9 := Lib.hid (HB8.out.trans (hb9.mono hs8))
            have HSame2 := Lib.hid (fun c c' => bytes_same (some ⟨g9, 0, none⟩) aa c c' xs w9 (RdB.own ho9 rfl) (hrdB_below HRa8.out hb9) (by omega))
            clear ho9 hb9 HRead
            go_wp2_with fail
            refine (HSame2.out _ _).mono ?_
            rintro e w10 ⟨rfl, q10, rfl⟩
            clear HSame2
            go_wp2
            go_ret
            exact ⟨by simp, below_drewN HB9.out q10⟩
          · obtain rfl : left = 0 := by omega
            have hsome : scatRun segs ys.length = some 0 := (HSc.out).1 rfl
            have hgn : gatherRes xs segs [] = some acc := by rw [HGq.out]; exact HG0.out.symm
            have hfitall := gatherRes_fits xs segs [] acc hgn
            refine HSca.out.mono ?_
            rintro e w6 hend
            have hend2 := hend.resolve_right (fun h => by
              rcases h.2 with h | ⟨_, ⟨s, hs, h⟩, _⟩
              · exact h.1 hsome
              · rw [hfitall s hs] at h; cases h)
            obtain ⟨_, _, rfl, hm6, hk6⟩ := hend2
            have HM6 := Lib.hid hm6
            have HB6w := Lib.hid (HB5w.out.trans (hk6.below w.heap.size HB5w.out.size (fun q h => by omega)))
            have hs6 := HB6w.out.size
            have HFa := Lib.hid hfitall
            have HSo := Lib.hid hsome
            have hmbl6 := hm6.body.lt
            have hmhl6 := hm6.head.lt
            clear hend hm6 hk6 HSca hsome hgn hfitall
            have HOwn := Lib.hid (World.ownsRow_made (base := w6.heap.size) (e := 5) (size := 1) w6 #[] 0 (Nat.le_refl _) (Nat.zero_le _) rfl)
            go_wp2_with (at_builtin; refine wpList_append_any rfl _ _ 30 rfl w6.heap.size 5 i0 (.int .u8 0) 1 1 Tryd.underlying30 Hi.out Hz0.out Hz1.out Hz2.out rfl (by decide) _ _ _ rfl HOwn.out a xs.length cap (xs.map (Value.int .u8)) rfl HNone.out (by simp) (newsArg (Hx.out w6 HB6w.out)) (by intro u hu; obtain ⟨x, _, rfl⟩ := List.mem_map.1 hu; rfl) (by unfold maxLen; omega) (by omega) (by simp) ?_)
            intro v' w7 hown' hgrow hnil
            have hb7 : Below w6.heap.size w6 w7 := ((Below.refl _ w6).alloc (Nat.le_refl _) _).grown hgrow (by simp) (fun k hk => by simp [Value.ownBlock] at hk; omega)
            have hown7 : w7.ownsRow w6.heap.size 5 1 v' xs.length (xs.map (Value.int .u8)) := hown'
            obtain ⟨g, cg, rfl, hg0⟩ : ∃ g cg, v' = .slice (some ⟨g, 0, none⟩) xs.length cg ∧ w6.heap.size ≤ g := by
              rcases hown7.2 with ⟨e, _⟩ | ⟨g, cg, cur, e, h1, _⟩
              · exact absurd (hnil e) (by simp)
              · exact ⟨g, cg, e, h1⟩
            have HO7 := Lib.hid hown7
            have HM7 := Lib.hid (HM6.out.below hb7)
            have HB7 := Lib.hid (HB6w.out.trans (hb7.mono hs6))
            have hs7 := HB7.out.size
            have hgm1 : g ≠ w.heap.size := by omega
            have hgm2 : g ≠ w.heap.size + 1 := by omega
            have hgw : w.heap.size ≤ g := by omega
            clear hown' hgrow hnil hb7 hown7 HOwn
            have HI0 : Hid (MovPut xs segs ys g cg w6 w7 0 0 xs w7) := ⟨Nat.zero_le _, Nat.zero_le _, rfl, HO7.out, Keep.refl _ _, rfl, by simpa using HSo.out⟩
            go_wp2_with fail
            rename World => wA
            go_loopw [21, 22] (fun sa si wr => ∃ (i at0 : Nat) (cur : List Int), si = .int .i64 i ∧ sa = .int .i64 at0 ∧ MovPut xs segs ys g cg w6 wA i at0 cur wr) (fun _ si _ => segs.length - (intOf si).toNat)
            case atStart => exact ⟨0, 0, xs, rfl, rfl, HI0.out⟩
            case round =>
              clear HI0
              obtain ⟨i, at0, cur, rfl, rfl, hi⟩ := hrel
              have HIv := Lib.hid hi
              have hi1 := hi.le
              have hi2 := hi.al
              have hcl := hi.len
              clear hi
              have HBw := Lib.hid (HB7.out.trans (HIv.out.keep.below w.heap.size hs7 (fun k e => by omega)))
              by_cases hilt : i < segs.length
              · obtain ⟨sb, off, e1, hsb, hcell⟩ := HSR.out.resolve_left (by omega)
                subst e1
                have HCell := Lib.hid (fun w' (hw' : Below w.heap.size w w') => And.intro ((hw'.cell (p := ⟨sb, off + i * 2, none⟩) hsb).trans (hcell i hilt).1) ((hw'.cell (p := ⟨sb, off + i * 2 + 1, none⟩) hsb).trans (hcell i hilt).2))
                have hff := HFa.out (segs.getD i (0, 0)) (by simp [List.getD, hilt])
                have hrun := show scatRun (segs.getD i (0, 0) :: segs.drop (i + 1)) ((ys.length : Int) - at0) = some 0 by rw [← drop_getD _ _ _ hilt]; exact HIv.out.run
                have hmem := show scatMem cur (segs.getD i (0, 0) :: segs.drop (i + 1)) (ys.drop at0) = scatMem xs segs ys by rw [← drop_getD _ _ _ hilt]; exact HIv.out.mem
                clear hcell
                generalize segs.getD i (0, 0) = s at *
                obtain ⟨x, n⟩ := s
                have hff' := (memFits_iff _ _ _).1 hff
                simp only [] at hff' HCell
                obtain ⟨p, rfl⟩ := Int.eq_ofNat_of_zero_le hff'.1
                obtain ⟨n, rfl⟩ := Int.eq_ofNat_of_zero_le hff'.2.1
                have hpn : p + n ≤ xs.length := by omega
                rw [scatRun] at hrun
                simp only [Int.max_eq_left (show (0 : Int) ≤ (n : Int) by omega)] at hrun
                by_cases hnl : ((ys.length : Int) - at0) < n
                · rw [if_pos hnl] at hrun; cases hrun
                rw [if_neg hnl] at hrun
                have hny : at0 + n ≤ ys.length := by omega
                have HRun := Lib.hid (show scatRun (segs.drop (i + 1)) ((ys.length : Int) - ((at0 + n : Nat) : Int)) = some 0 by rw [show (ys.length : Int) - ((at0 + n : Nat) : Int) = ys.length - at0 - n by omega]; exact hrun)
                have HMem := Lib.hid (show scatMem (splice cur p ((ys.drop at0).take n)) (segs.drop (i + 1)) (ys.drop (at0 + n)) = scatMem xs segs ys by rw [show ys.drop (at0 + n) = (ys.drop at0).drop n by rw [List.drop_drop]]; exact hmem)
                have HTk : Hid (∀ k, k ≤ n → ((ys.drop at0).take k).length = k) := fun k hk => by simp; omega
                have hil : (i : Int) < (segs.length : Int) := by omega
                clear hff hff' hrun hmem hnl
                go_wp2_with fail
                go_loopw [21, 23] (fun sa sk wr => ∃ k : Nat, k ≤ n ∧ sk = .int .i64 k ∧ sa = .int .i64 ((at0 + k : Nat) : Int) ∧ wr.ownsRow w6.heap.size 5 1 (.slice (some ⟨g, 0, none⟩) xs.length cg) xs.length ((splice cur p ((ys.drop at0).take k)).map (Value.int .u8)) ∧ Keep (· = g) wA wr) (fun _ sk _ => n - (intOf sk).toNat)
                case atStart => exact ⟨0, Nat.zero_le _, rfl, rfl, by simpa [splice] using HIv.out.own, HIv.out.keep⟩
                case round =>
                  obtain ⟨k, hk, rfl, rfl, how, hkp⟩ := hrel
                  have HOw := Lib.hid how
                  have HKp := Lib.hid hkp
                  have HBk := Lib.hid (HB7.out.trans (hkp.below w.heap.size hs7 (fun k e => by omega)))
                  clear how hkp
                  obtain ⟨c1, c2⟩ := HCell.out wr HBk.out
                  by_cases hkn : k < n
                  · obtain ⟨hdl, hdd⟩ := HDat.out wr w.heap.size HBk.out (Nat.le_refl _)
                    obtain ⟨db, doff, e2, _, _, hdc⟩ := hdd.resolve_left (by omega)
                    subst e2
                    have y1 := hdc (at0 + k) (by omega)
                    have hsl : (splice cur p ((ys.drop at0).take k)).length = xs.length := by rw [length_splice _ _ _ (by rw [HTk.out k (by omega)]; omega)]; exact hcl
                    have hltk : p + k < (splice cur p ((ys.drop at0).take k)).length := by omega
                    have y2 : ∃ o, wr.cell? ⟨g, p + k, none⟩ = some o := ⟨_, by
                      rw [HOw.out.cellAt (p + k) (by omega), List.getElem?_map, List.getElem?_eq_getElem hltk]; rfl⟩
                    obtain ⟨o, y2⟩ := y2
                    have f2 := HOw.out.frozenAt (p + k)
                    have hst := (HOw.out.stored (p + k) (.int .u8 (ys.getD (at0 + k) 0))).1
                    have hset : (((splice cur p ((ys.drop at0).take k)).map (Value.int .u8)).set (p + k) (.int .u8 (ys.getD (at0 + k) 0))) = ((splice cur p ((ys.drop at0).take (k + 1))).map (Value.int .u8)) := by
                      rw [← splice_set cur p (ys.drop at0) k (by rw [List.length_drop]; omega) (by omega)]
                      simp [List.map_set, List.getD, List.getElem?_drop]
                    rw [hset] at hst
                    have HSt := Lib.hid hst
                    have HKs := Lib.hid (HKp.out.setCell (p := ⟨g, p + k, none⟩) (.inl rfl) (.int .u8 (ys.getD (at0 + k) 0)))
                    have hw : IntKind.i64.wrap ((p : Int) + (k : Int)) = (p : Int) + (k : Int) := IntWalk.i64_in _ (by omega)
                    have hpk : p + k < xs.length := by omega
                    have hak : at0 + k < ys.length := by omega
                    have hbnd : ys.length ≤ 140737488351232 := yl
                    clear hst hset hsl hltk hdc hdl hdd
                    generalize ys.getD (at0 + k) 0 = ym at *
                    generalize hatk : at0 + k = atk at *
                    have HAtk := Lib.hid hatk
                    clear hatk
                    go_wp2_with fail
                    go_region
                    clear c1 c2 y1 y2 f2
                    go_wp2
                    go_roundw
                    case rel => exact ⟨k + 1, by omega, by go_num, by rw [show at0 + (k + 1) = atk + 1 by have := HAtk.out; omega]; go_num, HSt.out.drew, HKs.out.drew⟩
                    case measure => simp [intOf]; omega
                  · obtain rfl : k = n := by omega
                    have HN : Hid (MovPut xs segs ys g cg w6 wA (i + 1) (at0 + k) (splice cur p ((ys.drop at0).take k)) wr) := ⟨by omega, hny, by rw [length_splice _ _ _ (by rw [HTk.out k (by omega)]; omega)]; exact hcl, HOw.out, HKp.out, HMem.out, HRun.out⟩
                    go_wp2
                    go_roundw
                    case rel => exact ⟨i + 1, at0 + k, _, by go_num, rfl, HN.out⟩
                    case measure => simp [intOf]; omega
              · obtain rfl : i = segs.length := by omega
                have hcur := HIv.out.mem
                rw [List.drop_length] at hcur
                have hce : cur = scatMem xs segs ys := hcur
                subst hce
                have HMr : Hid (MemAt wr (w.heap.size + 1) w.heap.size (scatMem xs segs ys)) := ⟨HIv.out.keep.blk HM7.out.head (fun e => hgm2 e.symm), HIv.out.keep.blk HM7.out.body (fun e => hgm1 e.symm), HM7.out.apart, HM7.out.most, HM7.out.byte⟩
                have hsw := HBw.out.size
                have HOr := Lib.hid HIv.out.own
                have HCl := Lib.hid hcl
                clear hcur
                go_wp2_with fail
                refine (error_nil 0 wr).mono ?_
                rintro e w' ⟨rfl, rfl⟩
                have HRead := Lib.hid (mem_read_ok (w.heap.size + 1) w.heap.size (scatMem xs segs ys) 0 xs.length wr HMr.out (by rw [HCl.out]; omega))
                clear hcl
                go_wp2_with fail
                refine HRead.out.mono ?_
                rintro e w9 ⟨g9, c9, rfl, ho9, hb9⟩
                rw [List.drop_zero, List.take_of_length_le (by rw [HCl.out]; omega)] at ho9
                have HB9 := Lib.hid (HBw.out.trans (hb9.mono hsw))
                have hsame := fun c c' => bytes_same (some ⟨g9, 0, none⟩) (some ⟨g, 0, none⟩) c c' (scatMem xs segs ys) w9 (RdB.own ho9 HCl.out) (hrdB_below (RdB.own HOr.out HCl.out) hb9) (by rw [HCl.out]; omega)
                rw [HCl.out] at hsame
                have HSame2 := Lib.hid hsame
                clear ho9 hb9 HRead hsame
                go_wp2_with fail
                refine (HSame2.out _ _).mono ?_
                rintro e w10 ⟨rfl, q10, rfl⟩
                clear HSame2
                go_wp2
                go_ret
                exact ⟨by simp, below_drewN HB9.out q10⟩
      · have hG1 : G = none := (hgb (by omega)).2
        have HG1 := Lib.hid hG1
        rw [hG1] at HGa
        clear hgo hgb hG1
        go_wp2_with fail
        refine HGa.out.mono ?_
        rintro e w4 ⟨hb4, he4⟩
        have he5 : e = .returned (.tuple #[.slice none 0 0, memRangeErr]) := he4
        subst he5
        unfold memRangeErr
        have HB4 := Lib.hid (HBk.out.trans (hb4.mono hsz2))
        have HB4w := Lib.hid (HB.out.trans (HB4.out.mono hs1))
        have EH1 := Lib.hid (error_hit 1 1 w4 (HG.out.below hpos HB4w.out))
        unfold errV at EH1
        clear hb4 he4 HGa
        go_wp2_with fail
        refine EH1.out.mono ?_
        rintro e w4b ⟨rfl, hb4b⟩
        have HB4b := Lib.hid (HB4.out.trans (hb4b.mono HB4.out.size))
        have HSame := Lib.hid (fun c c' => bytes_same none none c c' [] w4b (.inl rfl) (.inl rfl) (by simp))
        clear hb4b EH1
        go_wp2_with fail
        refine (HSame.out _ _).mono ?_
        rintro e w5 ⟨rfl, q5, rfl⟩
        have HB5 := Lib.hid (below_drewN HB4b.out q5)
        clear HSame HB4 HB4b HB4w
        generalize w4b.drewN q5 = w5 at *
        have HM5 := Lib.hid (HM.out.below HB5.out)
        have hs5 := HB5.out.size
        have HB5w := Lib.hid (HB.out.trans (HB5.out.mono hs1))
        have HSR5 := Lib.hid (HSR.out.below HB5w.out)
        have HSca := Lib.hid (scatter_any (w.heap.size + 1) w.heap.size xs a1 cap1 segs a2 cap2 ys w5 HM5.out HSR5.out HSw.out (by omega) (by omega) (HDat.out w5 w.heap.size HB5w.out (Nat.le_refl _)) (fun h0 sb off e => by
          rcases HSR.out with h | ⟨sb', off', e1, e2, _⟩
          · omega
          · rw [e1] at e; cases e; omega) Yb.out)
        go_wp2_with fail
        by_cases hshb : sh = true
        · subst hshb
          have hns : ¬ scatRun segs ys.length = some 0 := fun h => by rw [(HSc.out).2 rfl] at h; cases h
          refine HSca.out.mono ?_
          rintro e w6 hend
          have hend2 := hend.resolve_left (fun h => hns h.1)
          have hbel6 := hend2.1
          obtain ⟨_, rfl⟩ := hend2.2.resolve_right (fun h => hns h.1)
          clear hend2 hns
          unfold shapeErr
          have HM6 := Lib.hid (HM5.out.below hbel6)
          have HB6w := Lib.hid (HB5w.out.trans (hbel6.mono HB5w.out.size))
          have hs6 := HB6w.out.size
          clear hend hbel6 HSca
          have HOwn := Lib.hid (World.ownsRow_made (base := w6.heap.size) (e := 5) (size := 1) w6 #[] 0 (Nat.le_refl _) (Nat.zero_le _) rfl)
          go_wp2_with (at_builtin; refine wpList_append_any rfl _ _ 30 rfl w6.heap.size 5 i0 (.int .u8 0) 1 1 Tryd.underlying30 Hi.out Hz0.out Hz1.out Hz2.out rfl (by decide) _ _ _ rfl HOwn.out a xs.length cap (xs.map (Value.int .u8)) rfl HNone.out (by simp) (newsArg (Hx.out w6 HB6w.out)) (by intro u hu; obtain ⟨x, _, rfl⟩ := List.mem_map.1 hu; rfl) (by unfold maxLen; omega) (by omega) (by simp) ?_)
          intro v' w7 hown' hgrow hnil
          have hb7 : Below w6.heap.size w6 w7 := ((Below.refl _ w6).alloc (Nat.le_refl _) _).grown hgrow (by simp) (fun k hk => by simp [Value.ownBlock] at hk; omega)
          have hown7 : w7.ownsRow w6.heap.size 5 1 v' xs.length (xs.map (Value.int .u8)) := hown'
          obtain ⟨aa, ca, rfl, hra⟩ := rdB_any hown7
          have HRa := Lib.hid hra
          have HM7 := Lib.hid (HM6.out.below hb7)
          have HB7 := Lib.hid (HB6w.out.trans (hb7.mono hs6))
          have hs7 := HB7.out.size
          clear hown' hgrow hnil hb7 hown7 hra HOwn
          have EH := Lib.hid (error_hit 2 2 w7 (HG.out.below hpos HB7.out))
          unfold errV at EH
          go_wp2_with fail
          refine EH.out.mono ?_
          rintro e w8 ⟨rfl, hb8⟩
          have HM8 := Lib.hid (HM7.out.below hb8)
          have HRa8 := Lib.hid (hrdB_below HRa.out hb8)
          have HB8 := Lib.hid (HB7.out.trans (hb8.mono hs7))
          have hs8 := HB8.out.size
          clear hb8 EH
          have HRead := Lib.hid (mem_read_ok (w.heap.size + 1) w.heap.size xs 0 xs.length w8 HM8.out (by omega))
          go_wp2_with fail
          refine HRead.out.mono ?_
          rintro e w9 ⟨g9, c9, rfl, ho9, hb9⟩
          rw [List.drop_zero, List.take_of_length_le (Nat.le_refl _)] at ho9
          have HB9 := Lib.hid (HB8.out.trans (hb9.mono hs8))
          have HSame2 := Lib.hid (fun c c' => bytes_same (some ⟨g9, 0, none⟩) aa c c' xs w9 (RdB.own ho9 rfl) (hrdB_below HRa8.out hb9) (by omega))
          clear ho9 hb9 HRead
          go_wp2_with fail
          refine (HSame2.out _ _).mono ?_
          rintro e w10 ⟨rfl, q10, rfl⟩
          clear HSame2
          go_wp2
          go_ret
          exact ⟨by simp, below_drewN HB9.out q10⟩
        · have hshf : sh = false := by simpa using hshb
          subst hshf
          clear hshb
          by_cases hlp : 0 < left
          · have hns : ¬ scatRun segs ys.length = some 0 := fun h => by
              have h2 := (HSc.out).1 rfl
              rw [h] at h2
              have h3 : (0 : Int) = left := Option.some.inj h2
              omega
            refine HSca.out.mono ?_
            rintro e w6 hend
            have hend2 := hend.resolve_left (fun h => hns h.1)
            have hbel6 := hend2.1
            obtain ⟨_, rfl⟩ := hend2.2.resolve_right (fun h => hns h.1)
            clear hend2 hns
            unfold shapeErr
            have HM6 := Lib.hid (HM5.out.below hbel6)
            have HB6w := Lib.hid (HB5w.out.trans (hbel6.mono HB5w.out.size))
            have hs6 := HB6w.out.size
            clear hend hbel6 HSca
            have HOwn := Lib.hid (World.ownsRow_made (base := w6.heap.size) (e := 5) (size := 1) w6 #[] 0 (Nat.le_refl _) (Nat.zero_le _) rfl)
            go_wp2_with (at_builtin; refine wpList_append_any rfl _ _ 30 rfl w6.heap.size 5 i0 (.int .u8 0) 1 1 Tryd.underlying30 Hi.out Hz0.out Hz1.out Hz2.out rfl (by decide) _ _ _ rfl HOwn.out a xs.length cap (xs.map (Value.int .u8)) rfl HNone.out (by simp) (newsArg (Hx.out w6 HB6w.out)) (by intro u hu; obtain ⟨x, _, rfl⟩ := List.mem_map.1 hu; rfl) (by unfold maxLen; omega) (by omega) (by simp) ?_)
            intro v' w7 hown' hgrow hnil
            have hb7 : Below w6.heap.size w6 w7 := ((Below.refl _ w6).alloc (Nat.le_refl _) _).grown hgrow (by simp) (fun k hk => by simp [Value.ownBlock] at hk; omega)
            have hown7 : w7.ownsRow w6.heap.size 5 1 v' xs.length (xs.map (Value.int .u8)) := hown'
            obtain ⟨aa, ca, rfl, hra⟩ := rdB_any hown7
            have HRa := Lib.hid hra
            have HM7 := Lib.hid (HM6.out.below hb7)
            have HB7 := Lib.hid (HB6w.out.trans (hb7.mono hs6))
            have hs7 := HB7.out.size
            clear hown' hgrow hnil hb7 hown7 hra HOwn
            have EH := Lib.hid (error_hit 2 2 w7 (HG.out.below hpos HB7.out))
            unfold errV at EH
            go_wp2_with fail
            refine EH.out.mono ?_
            rintro e w8 ⟨rfl, hb8⟩
            have HM8 := Lib.hid (HM7.out.below hb8)
            have HRa8 := Lib.hid (hrdB_below HRa.out hb8)
            have HB8 := Lib.hid (HB7.out.trans (hb8.mono hs7))
            have hs8 := HB8.out.size
            clear hb8 EH
            have HRead := Lib.hid (mem_read_ok (w.heap.size + 1) w.heap.size xs 0 xs.length w8 HM8.out (by omega))
            go_wp2_with fail
            refine HRead.out.mono ?_
            rintro e w9 ⟨g9, c9, rfl, ho9, hb9⟩
            rw [List.drop_zero, List.take_of_length_le (Nat.le_refl _)] at ho9
            have HB9 := Lib.hid (HB8.out.trans (hb9.mono hs8))
            have HSame2 := Lib.hid (fun c c' => bytes_same (some ⟨g9, 0, none⟩) aa c c' xs w9 (RdB.own ho9 rfl) (hrdB_below HRa8.out hb9) (by omega))
            clear ho9 hb9 HRead
            go_wp2_with fail
            refine (HSame2.out _ _).mono ?_
            rintro e w10 ⟨rfl, q10, rfl⟩
            clear HSame2
            go_wp2
            go_ret
            exact ⟨by simp, below_drewN HB9.out q10⟩
          · obtain rfl : left = 0 := by omega
            have hsome : scatRun segs ys.length = some 0 := (HSc.out).1 rfl
            have hgn : gatherRes xs segs [] = none := by rw [HGq.out]; exact HG1.out
            refine HSca.out.mono ?_
            rintro e w6 hend
            have hend2 := hend.resolve_left (fun h => by
              obtain ⟨ds, e, _⟩ := gatherRes_ok xs segs [] h.2.1
              rw [hgn] at e; cases e)
            have hbel6 := hend2.1
            obtain ⟨_, _, rfl⟩ := hend2.2.resolve_left (fun h => h.1 hsome)
            clear hend2 hsome hgn
            unfold memRangeErr
            have HM6 := Lib.hid (HM5.out.below hbel6)
            have HB6w := Lib.hid (HB5w.out.trans (hbel6.mono HB5w.out.size))
            have hs6 := HB6w.out.size
            clear hend hbel6 HSca
            have HOwn := Lib.hid (World.ownsRow_made (base := w6.heap.size) (e := 5) (size := 1) w6 #[] 0 (Nat.le_refl _) (Nat.zero_le _) rfl)
            go_wp2_with (at_builtin; refine wpList_append_any rfl _ _ 30 rfl w6.heap.size 5 i0 (.int .u8 0) 1 1 Tryd.underlying30 Hi.out Hz0.out Hz1.out Hz2.out rfl (by decide) _ _ _ rfl HOwn.out a xs.length cap (xs.map (Value.int .u8)) rfl HNone.out (by simp) (newsArg (Hx.out w6 HB6w.out)) (by intro u hu; obtain ⟨x, _, rfl⟩ := List.mem_map.1 hu; rfl) (by unfold maxLen; omega) (by omega) (by simp) ?_)
            intro v' w7 hown' hgrow hnil
            have hb7 : Below w6.heap.size w6 w7 := ((Below.refl _ w6).alloc (Nat.le_refl _) _).grown hgrow (by simp) (fun k hk => by simp [Value.ownBlock] at hk; omega)
            have hown7 : w7.ownsRow w6.heap.size 5 1 v' xs.length (xs.map (Value.int .u8)) := hown'
            obtain ⟨aa, ca, rfl, hra⟩ := rdB_any hown7
            have HRa := Lib.hid hra
            have HM7 := Lib.hid (HM6.out.below hb7)
            have HB7 := Lib.hid (HB6w.out.trans (hb7.mono hs6))
            have hs7 := HB7.out.size
            clear hown' hgrow hnil hb7 hown7 hra HOwn
            have EH := Lib.hid (error_hit 1 1 w7 (HG.out.below hpos HB7.out))
            unfold errV at EH
            go_wp2_with fail
            refine EH.out.mono ?_
            rintro e w8 ⟨rfl, hb8⟩
            have HM8 := Lib.hid (HM7.out.below hb8)
            have HRa8 := Lib.hid (hrdB_below HRa.out hb8)
            have HB8 := Lib.hid (HB7.out.trans (hb8.mono hs7))
            have hs8 := HB8.out.size
            clear hb8 EH
            have HRead := Lib.hid (mem_read_ok (w.heap.size + 1) w.heap.size xs 0 xs.length w8 HM8.out (by omega))
            go_wp2_with fail
            refine HRead.out.mono ?_
            rintro e w9 ⟨g9, c9, rfl, ho9, hb9⟩
            rw [List.drop_zero, List.take_of_length_le (Nat.le_refl _)] at ho9
            have HB9 := Lib.hid (HB8.out.trans (hb9.mono hs8))
            have HSame2 := Lib.hid (fun c c' => bytes_same (some ⟨g9, 0, none⟩) aa c c' xs w9 (RdB.own ho9 rfl) (hrdB_below HRa8.out hb9) (by omega))
            clear ho9 hb9 HRead
            go_wp2_with fail
            refine (HSame2.out _ _).mono ?_
            rintro e w10 ⟨rfl, q10, rfl⟩
            clear HSame2
            go_wp2
            go_ret
            exact ⟨by simp, below_drewN HB9.out q10⟩
end Go.Proofs.YtnapgigemdmigaaDoor
