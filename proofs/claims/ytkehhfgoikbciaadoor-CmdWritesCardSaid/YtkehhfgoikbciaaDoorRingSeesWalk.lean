/- granarylaw3.RingSees returns true, and writes nothing that was there. -/
import Derived.Test.YtkehhfgoikbciaaDoorRingPostsWalk
import Derived.Test.YtkehhfgoikbciaaDoorIntsEq
import Derived.Test.YtkehhfgoikbciaaDoorBRows
import Derived.BigQuiet
import Derived.IntWalk
import Derived.Laws.OwnMore
namespace Go.Proofs.YtkehhfgoikbciaaDoor
open Go.RowKit
set_option linter.unusedVariables false

theorem rdI_own {w : World} {base : Nat} {e : TypeId} {av : Option Addr} {n c : Nat} {xs : List Int} (h : w.ownsRow base e 1 (.slice av n c) n (xs.map (Value.int .i64))) (hn : xs.length = n) : RdI w av xs := by
  by_cases h0 : xs.length = 0
  · exact .inl h0
  · obtain ⟨_, ⟨hv, _⟩ | ⟨g, cap, cur, hv, h1, h2, h3, h4, h5, h6⟩⟩ := h
    · simp only [Value.slice.injEq] at hv; omega
    · simp only [Value.slice.injEq] at hv
      obtain ⟨rfl, _, rfl⟩ := hv
      refine .inr ⟨g, 0, rfl, fun i hi => ?_⟩
      have e1 : w.cell? ⟨g, 0 + i, none⟩ = cur[i]? := by simp [World.cell?, h2]
      rw [e1]
      have e2 : (cur.toList.take (n * 1))[i]? = some (Value.int .i64 (xs.getD i 0)) := by
        rw [h6]
        have : i < xs.length := hi
        simp [List.getD, this]
      have hin : i < n := by omega
      simpa [List.getElem?_take, hin] using e2
theorem RdI.below {w w' : World} {a : Option Addr} {xs : List Int} (h : RdI w a xs) (hb : Below w.heap.size w w') : RdI w' a xs :=
  h.of_cells (fun p v hv => (hb.cell (p := p) (by
    unfold World.cell? at hv
    by_cases q : p.block < w.heap.size
    · exact q
    · rw [Array.getElem?_eq_none (by omega)] at hv; cases hv)).trans hv)

/-- the law's own count, j slots on -/
structure SeesInv (w0 : World) (B n T : Nat) (ph : List Bool) (j : Nat) (v : Value) (wr : World) : Prop where
  le : j ≤ n - 1
  cnt : seerCount n ph T (n - 1) = j + seerCount n ph (T + j) (n - 1 - j)
  own : wr.ownsRow B 3 1 v j ((seerList n T j).map (Value.int .i64))
  bel : Below B w0 wr
theorem seerCount_step (n : Nat) (ph : List Bool) (T f : Nat) : seerCount n ph T (f + 1) = if ph.getD (T % n) false = seerDown n T then 0 else seerCount n ph (T + 1) f + 1 := rfl
theorem ph_list (n : Nat) (f : Nat → Bool) (i : Nat) (h : i < n) : ((List.range n).map f).getD i false = f i := by
  simp [List.getD, h]

/- THE WALK -/

set_option maxRecDepth 100000 in
set_option maxHeartbeats 8000000 in
theorem ringSees_walk (w : World) (hg : Laid w) (n : Int) (hn0 : -9223372036854775808 ≤ n) (hn1 : n ≤ 9223372036854775807) (a : Option Addr) (len cap : Nat) (A : Nat → Option Addr) (L C : Nat → Nat) (Bo : Nat → Nat → Bool) (hz : IsBRows w a len A L C Bo) :
    Calls Tryd.prog 3 #[.int .i64 n, .slice a len cap] w fun e w' => e = .returned (.bool true) ∧ Below w.heap.size w w' := by
  have hlen : len * 24 ≤ 140737488351232 := by
    rcases hz with h | ⟨_, _, _, h, _⟩ <;> omega
  have hz' := Lib.hid hz
  have HG := Lib.hid hg
  have hpos := hg.pos
  obtain ⟨i0, hi, hz0', hz1, hz2⟩ := info_parts (P := Tryd.prog) (e := 3) (z := .int .i64 0) (size := 1) (bytes := 8) (by kernel_rfl)
  have Hi := Lib.hid hi
  have Hz0 := Lib.hid hz0'
  have Hz1 := Lib.hid hz1
  have Hz2 := Lib.hid hz2
  clear hz hg hi hz0' hz1 hz2
  by_cases hbad : n < 2 ∨ 16 < n
  · have Hb := Lib.hid hbad
    clear hbad
    have E := Lib.hid (error_hit 1 1 w HG.out)
    unfold errV at E
    go_enter Tryd.func3, Tryd.ntmps3
    go_wp2_with fail
    refine (seer_new_bad _ _ Hb.out).mono ?_
    rintro e w' ⟨rfl, rfl⟩
    unfold ringErr
    by_cases c1 : n < 2
    · go_wp2_with fail
      refine E.out.mono ?_
      rintro e w' ⟨rfl, hB⟩
      have HBB := Lib.hid hB
      clear hB
      go_wp2
      go_ret
      exact ⟨rfl, HBB.out⟩
    · have c2 : 16 < n := by have := Hb.out; omega
      go_wp2_with fail
      refine E.out.mono ?_
      rintro e w' ⟨rfl, hB⟩
      have HBB := Lib.hid hB
      clear hB
      go_wp2
      go_ret
      exact ⟨rfl, HBB.out⟩
  · obtain ⟨n, rfl⟩ := Int.eq_ofNat_of_zero_le (show 0 ≤ n by omega)
    have h2 : 2 ≤ n := by omega
    have h16 : n ≤ 16 := by omega
    have hnz : ((n : Int) == 0) = false := by simp; omega
    clear hbad hn0 hn1
    go_enter Tryd.func3, Tryd.ntmps3
    go_wp2_with fail
    refine (seer_new_ok n _ h2 h16).mono ?_
    rintro e w1 ⟨rfl, hb, hB⟩
    have HB := Lib.hid hB
    have HK := Lib.hid hb
    clear hb hB
    obtain ⟨bb, hbb⟩ : ∃ bb, bb = w.heap.size := ⟨_, rfl⟩
    rw [← hbb] at HK ⊢
    have hbb1 : w.heap.size ≤ bb := by omega
    clear hbb
    go_wp2_with fail
    go_loopw [7, 8] (fun tk i wr => ∃ (t T : Nat), t ≤ len ∧ i = .int .i64 t ∧ tk = .int .i64 T ∧ T ≤ t * 15 ∧ Blk wr bb (seerCells n T) 138 ∧ Below w.heap.size w wr) (fun _ i _ => len - (intOf i).toNat)
    case atStart => exact ⟨0, 0, Nat.zero_le _, rfl, rfl, Nat.zero_le _, HK.out, HB.out⟩
    case round =>
      obtain ⟨t, T, ht, rfl, rfl, hTt, hbk, hbl⟩ := hrel
      have HK2 := Lib.hid hbk
      have HB2 := Lib.hid hbl
      clear hbk hbl HK HB
      by_cases hlt : t < len
      · obtain ⟨b, off, rfl, _, hbW, hr⟩ := hz'.out.resolve_left (by omega)
        obtain ⟨hcell, hLm, hrow⟩ := hr t hlt
        have hc := (HB2.out.cell (p := ⟨b, off + t, none⟩) hbW).trans hcell
        have Hcell := Lib.hid hcell
        have Hrow := Lib.hid hrow
        have hLm2 : L t ≤ 9223372036854775807 := by unfold maxLen at hLm; omega
        clear hcell hrow hr hz' hLm
        generalize A t = At at *
        generalize L t = Lt at *
        generalize C t = Ct at *
        generalize Bo t = Bt at *
        by_cases hLn : Lt = n
        · subst hLn
          obtain ⟨b', off', rfl, hb', hcells⟩ := Hrow.out.resolve_left (by omega)
          obtain ⟨ph, hph⟩ : ∃ ph : List Bool, ph = (List.range Lt).map Bt := ⟨_, rfl⟩
          have HPH := Lib.hid (show ∀ i, i < Lt → w.cell? ⟨b', off' + i, none⟩ = some (.bool (ph.getD i false)) from fun i hi => by rw [hph, ph_list _ _ _ hi]; exact hcells i hi)
          have hc0 : ∀ i, i < Lt → wr.cell? ⟨b', off' + i, none⟩ = some (.bool (ph.getD i false)) := fun i hi => (HB2.out.cell (p := ⟨b', off' + i, none⟩) hb').trans (HPH.out i hi)
          have N1 := Lib.hid (seer_take_ok bb Lt T b' off' Ct ph wr HK2.out h2 h16 (by omega) (by have := HB2.out.size; omega) hc0)
          clear hc0 hcells hph Hrow
          generalize Lt = n at *
          go_wp2_with fail
          refine N1.out.mono ?_
          rintro e w3 ⟨v3, rfl, hS⟩
          have hcl := seerCount_le n ph (n - 1) T
          generalize hcn : seerCount n ph T (n - 1) = cn at hS hcl
          have HCN := Lib.hid hcn
          clear hcn
          obtain ⟨lp, lc, rfl⟩ := ownsRow_form hS.own
          have HL := Lib.hid (show RdI w3 lp (seerList n T cn) from rdI_own hS.own (seerList_length _ _ _))
          have HB3 := Lib.hid (HB2.out.trans (hS.keep.below w.heap.size HB2.out.size (fun k e => by omega)))
          have HK3 := Lib.hid hS.blk
          have hc3 := (HB3.out.cell (p := ⟨b, off + t, none⟩) hbW).trans Hcell.out
          clear hS N1 HK2 HB2 hc
          go_wp2_with fail
          go_loopw [7, 12] (fun tk v wr => ∃ j : Nat, j ≤ n - 1 ∧ tk = .int .i64 ((T + j : Nat) : Int) ∧ SeesInv w3 w3.heap.size n T ph j v wr) (fun _ v _ => n - sliceLen v)
          case atStart => exact ⟨0, Nat.zero_le _, rfl, ⟨Nat.zero_le _, by simp, by simpa [seerList] using World.ownsRow_nil w3 w3.heap.size 3 1, Below.refl _ _⟩⟩
          case round =>
            obtain ⟨j, hj, rfl, hS⟩ := hrel
            obtain ⟨p2, c2, hv2⟩ := ownsRow_form hS.own
            subst hv2
            have HS := Lib.hid hS
            clear hS
            have hm := Nat.mod_lt (T + j) (show 0 < n by omega)
            have hq0 : 0 ≤ ((T : Int) + (j : Int)) / (n : Int) := Int.ediv_nonneg (by omega) (by omega)
            have hq1 : ((T : Int) + (j : Int)) / (n : Int) ≤ 9223372036854775807 := by
              have := Int.ediv_le_self (a := (T : Int) + (j : Int)) (n : Int) (by omega)
              omega
            have ct := (HS.out.bel.cell (p := ⟨b, off + t, none⟩) (by have := HB3.out.size; simp; omega)).trans hc3
            have hcx := (HS.out.bel.cell (p := ⟨b', off' + (T + j) % n, none⟩) (by have := HB3.out.size; simp; omega)).trans ((HB3.out.cell (p := ⟨b', off' + (T + j) % n, none⟩) hb').trans (HPH.out _ hm))
            have s0 : IntKind.i64.wrap ((n : Int) - 1) = (n : Int) - 1 := IntWalk.i64_in _ (by omega)
            have s1 : IntKind.i64.wrap ((T : Int) + (j : Int)) = (T : Int) + (j : Int) := IntWalk.i64_in _ (by omega)
            have e1 : Int.tmod ((T : Int) + (j : Int)) (n : Int) = (((T + j) % n : Nat) : Int) := by rw [Int.tmod_eq_emod_of_nonneg (by omega)]; simp
            have e2 : Int.tdiv ((T : Int) + (j : Int)) (n : Int) = (((T + j) / n : Nat) : Int) := by rw [Int.tdiv_eq_ediv_of_nonneg (by omega)]; simp
            have hdl : (T + j) / n ≤ T + j := Nat.div_le_self _ _
            have e4' : Int.tmod (((T + j) / n : Nat) : Int) 2 = ((((T + j) / n) % 2 : Nat) : Int) := by rw [Int.tmod_eq_emod_of_nonneg (Int.natCast_nonneg _)]; simp
            have hpe' : ((((T + j) / n) % 2 : Nat) : Int) = 0 ↔ seerDown n (T + j) = false := by
              unfold seerDown
              rcases Nat.mod_two_eq_zero_or_one ((T + j) / n) with q | q <;> simp [q]
            generalize (T + j) / n = dq at e2 hdl e4' hpe'
            have e3 : IntKind.i64.wrap (dq : Int) = (dq : Int) := IntWalk.i64_in _ (by omega)
            have e4 : (Int.tmod (dq : Int) 2 == 0) = !seerDown n (T + j) := by
              rw [e4']
              cases hsd : seerDown n (T + j) with
              | true => simp; intro h; have := hpe'.1 (by simpa using h); rw [hsd] at this; cases this
              | false => have := hpe'.2 hsd; rw [this]; rfl
            have e5 : ((dq : Int) % 2 == 0) = !seerDown n (T + j) := by
              have e6 : (dq : Int) % 2 = Int.tmod (dq : Int) 2 := (Int.tmod_eq_emod_of_nonneg (Int.natCast_nonneg _)).symm
              rw [e6]; exact e4
            clear e4' hpe' hdl
            obtain ⟨m, hmm⟩ : ∃ m, m = (T + j) % n := ⟨_, rfl⟩
            rw [← hmm] at hm e1 hcx
            have HM := Lib.hid hmm
            clear hmm
            have hnn : ¬ (n = 0) := by omega
            by_cases hjn : j < n - 1
            · have hji : (j : Int) < (n : Int) - 1 := by omega
              have dj : decide ((j : Int) < (n : Int) - 1) = true := decide_eq_true hji
              cases hX : ph.getD m false with
              | true =>
                have HX := Lib.hid hX
                rw [hX] at hcx
                clear hX
                cases hD : seerDown n (T + j) with
                | true =>
                  have HD := Lib.hid hD
                  rw [hD] at e4 e5
                  simp only [Bool.not_true] at e4 e5
                  clear hD
                  have hk0 : cn = j := by
                    rw [← HCN.out, HS.out.cnt]
                    obtain ⟨f, hf⟩ : ∃ f, n - 1 - j = f + 1 := ⟨n - 1 - j - 1, by omega⟩
                    rw [hf]
                    unfold seerCount
                    rw [if_pos (by rw [← HM.out, HX.out, HD.out])]
                    rfl
                  have hk := Lib.hid hk0
                  clear hk0
                  have HI := Lib.hid (show RdI wr p2 (seerList n T j) from rdI_own HS.out.own (seerList_length _ _ _))
                  have HL2 := Lib.hid (HL.out.below (HS.out.bel.mono (Nat.le_refl _)))
                  go_wp2_with fail
                  go_quiet (fail)
                  have HI2 := Lib.hid (show RdI (wr.drewN nq) p2 (seerList n T j) from HI.out)
                  have HB5 := Lib.hid (show Below w.heap.size w (wr.drewN nq) from ⟨(HB3.out.trans (HS.out.bel.mono HB3.out.size)).os, (HB3.out.trans (HS.out.bel.mono HB3.out.size)).tape, (HB3.out.trans (HS.out.bel.mono HB3.out.size)).output, (HB3.out.trans (HS.out.bel.mono HB3.out.size)).size, (HB3.out.trans (HS.out.bel.mono HB3.out.size)).block⟩)
                  have HKs := Lib.hid (show Blk (wr.drewN nq) bb (seerCells n (T + j)) 138 from by have := (HS.out.bel.block bb HK3.out.lt).trans HK3.out; rw [hk.out] at this; exact this)
                  have hjl := HS.out.le
                  have HL3 := Lib.hid (show RdI (wr.drewN nq) lp (seerList n T j) by have := HL2.out; rw [hk.out] at this; exact this)
                  clear HS HI HL2 HL hcx ct s0 s1 e1 e2 e3 e4 e5
                  generalize World.drewN _ nq = w5 at *
                  have HE := Lib.hid (show Calls Tryd.prog 20 #[.slice lp cn lc, .slice p2 j c2] w5 _ by have := ints_same lp p2 lc c2 (seerList n T j) w5 HL3.out HI2.out (by rw [seerList_length]; omega); rw [seerList_length] at this; rw [hk.out]; exact this)
                  go_wp2_with fail
                  refine HE.out.mono ?_
                  rintro e w' ⟨rfl, q5, rfl⟩
                  have HB6 := Lib.hid (show Below w.heap.size w (w5.drewN q5) from ⟨HB5.out.os, HB5.out.tape, HB5.out.output, HB5.out.size, HB5.out.block⟩)
                  have HKs2 := Lib.hid (show Blk (w5.drewN q5) bb (seerCells n (T + j)) 138 from HKs.out)
                  clear HB5 HKs HE
                  generalize World.drewN _ q5 = w6 at *
                  go_wp2
                  go_roundw
                  case rel => exact ⟨t + 1, T + j, by omega, by go_num, by go_num, (by
                    have e : (t + 1) * 15 = t * 15 + 15 := by omega
                    omega), HKs2.out, HB6.out⟩
                  case measure => simp [intOf]; omega
                | false =>
                  have HD := Lib.hid hD
                  rw [hD] at e4 e5
                  simp only [Bool.not_false] at e4 e5
                  clear hD
                  go_wp2_with fail
                  go_quiet (fail)
                  have HS2 := Lib.hid (show SeesInv w3 w3.heap.size n T ph j (.slice p2 j c2) (wr.drewN nq) from ⟨HS.out.le, HS.out.cnt, HS.out.own, ⟨HS.out.bel.os, HS.out.bel.tape, HS.out.bel.output, HS.out.bel.size, HS.out.bel.block⟩⟩)
                  have hcnt2 : seerCount n ph T (n - 1) = j + 1 + seerCount n ph (T + (j + 1)) (n - 1 - (j + 1)) := by
                    rw [HS.out.cnt]
                    obtain ⟨f, hf⟩ : ∃ f, n - 1 - j = f + 1 := ⟨n - 1 - j - 1, by omega⟩
                    rw [hf]
                    rw [seerCount_step, if_neg (by rw [← HM.out, HX.out, HD.out]; simp)]
                    rw [show n - 1 - (j + 1) = f by omega, Nat.add_assoc T j 1]
                    omega
                  have HC2 := Lib.hid hcnt2
                  clear hcnt2 HS hcx ct s0 s1 e1 e2 e3 e4 e5
                  generalize World.drewN _ nq = w5 at *
                  go_wp2_with (at_builtin; refine wpList_append_own _ rfl _ _ 30 rfl w3.heap.size 3 i0 (.int .i64 0) 1 8 Tryd.underlying30 Hi.out Hz0.out Hz1.out Hz2.out rfl (by decide) _ _ _ rfl (HS2.out.own.alloc _) ⟨w5.heap.size, 0, none⟩ 1 1 [.int .i64 (((T : Int) + (j : Int)) % (n : Int))] rfl rfl ?cA1 ?cB1 ?cC1 ?cD1 ?cE1 ?_)
                  case cA1 => exact one_news _ _ _ _ rfl
                  case cB1 => intro u hu; simp at hu; subst hu; rfl
                  case cC1 => unfold maxLen; omega
                  case cD1 => omega
                  case cE1 => have := HS2.out.bel.size; simp; omega
                  intro v' w6 hown' hgrow _
                  have HS3 := Lib.hid (show SeesInv w3 w3.heap.size n T ph (j + 1) v' w6 from ⟨by omega, HC2.out, by
                    rw [seerList_succ, List.map_append]
                    have e : [Value.int .i64 (((T : Int) + (j : Int)) % (n : Int))] = [((((T + j) % n : Nat) : Int))].map (Value.int .i64) := by simp
                    rw [e] at hown'
                    exact hown', (HS2.out.bel.alloc HS2.out.bel.size _).grown hgrow (by have := HS2.out.bel.size; simp; omega) (fun k' hk' => by
                      have h2 := HS2.out.own.2
                      rcases h2 with ⟨e, _⟩ | ⟨g', _, _, e, hg', _⟩
                      · rw [e] at hk'; cases hk'
                      · rw [e] at hk'; cases hk'; exact hg')⟩)
                  clear hown' hgrow HS2 HC2
                  obtain ⟨p3, c3, hv3⟩ := ownsRow_form HS3.out.own
                  subst hv3
                  go_wp2
                  go_roundw
                  case rel => exact ⟨j + 1, by omega, by go_num, HS3.out⟩
                  case measure => simp [sliceLen] ; omega
              | false =>
                have HX := Lib.hid hX
                rw [hX] at hcx
                clear hX
                cases hD : seerDown n (T + j) with
                | true =>
                  have HD := Lib.hid hD
                  rw [hD] at e4 e5
                  simp only [Bool.not_true] at e4 e5
                  clear hD
                  go_wp2_with fail
                  go_quiet (fail)
                  have HS2 := Lib.hid (show SeesInv w3 w3.heap.size n T ph j (.slice p2 j c2) (wr.drewN nq) from ⟨HS.out.le, HS.out.cnt, HS.out.own, ⟨HS.out.bel.os, HS.out.bel.tape, HS.out.bel.output, HS.out.bel.size, HS.out.bel.block⟩⟩)
                  have hcnt2 : seerCount n ph T (n - 1) = j + 1 + seerCount n ph (T + (j + 1)) (n - 1 - (j + 1)) := by
                    rw [HS.out.cnt]
                    obtain ⟨f, hf⟩ : ∃ f, n - 1 - j = f + 1 := ⟨n - 1 - j - 1, by omega⟩
                    rw [hf]
                    rw [seerCount_step, if_neg (by rw [← HM.out, HX.out, HD.out]; simp)]
                    rw [show n - 1 - (j + 1) = f by omega, Nat.add_assoc T j 1]
                    omega
                  have HC2 := Lib.hid hcnt2
                  clear hcnt2 HS hcx ct s0 s1 e1 e2 e3 e4 e5
                  generalize World.drewN _ nq = w5 at *
                  go_wp2_with (at_builtin; refine wpList_append_own _ rfl _ _ 30 rfl w3.heap.size 3 i0 (.int .i64 0) 1 8 Tryd.underlying30 Hi.out Hz0.out Hz1.out Hz2.out rfl (by decide) _ _ _ rfl (HS2.out.own.alloc _) ⟨w5.heap.size, 0, none⟩ 1 1 [.int .i64 (((T : Int) + (j : Int)) % (n : Int))] rfl rfl ?cA2 ?cB2 ?cC2 ?cD2 ?cE2 ?_)
                  case cA2 => exact one_news _ _ _ _ rfl
                  case cB2 => intro u hu; simp at hu; subst hu; rfl
                  case cC2 => unfold maxLen; omega
                  case cD2 => omega
                  case cE2 => have := HS2.out.bel.size; simp; omega
                  intro v' w6 hown' hgrow _
                  have HS3 := Lib.hid (show SeesInv w3 w3.heap.size n T ph (j + 1) v' w6 from ⟨by omega, HC2.out, by
                    rw [seerList_succ, List.map_append]
                    have e : [Value.int .i64 (((T : Int) + (j : Int)) % (n : Int))] = [((((T + j) % n : Nat) : Int))].map (Value.int .i64) := by simp
                    rw [e] at hown'
                    exact hown', (HS2.out.bel.alloc HS2.out.bel.size _).grown hgrow (by have := HS2.out.bel.size; simp; omega) (fun k' hk' => by
                      have h2 := HS2.out.own.2
                      rcases h2 with ⟨e, _⟩ | ⟨g', _, _, e, hg', _⟩
                      · rw [e] at hk'; cases hk'
                      · rw [e] at hk'; cases hk'; exact hg')⟩)
                  clear hown' hgrow HS2 HC2
                  obtain ⟨p3, c3, hv3⟩ := ownsRow_form HS3.out.own
                  subst hv3
                  go_wp2
                  go_roundw
                  case rel => exact ⟨j + 1, by omega, by go_num, HS3.out⟩
                  case measure => simp [sliceLen] ; omega
                | false =>
                  have HD := Lib.hid hD
                  rw [hD] at e4 e5
                  simp only [Bool.not_false] at e4 e5
                  clear hD
                  have hk0 : cn = j := by
                    rw [← HCN.out, HS.out.cnt]
                    obtain ⟨f, hf⟩ : ∃ f, n - 1 - j = f + 1 := ⟨n - 1 - j - 1, by omega⟩
                    rw [hf]
                    unfold seerCount
                    rw [if_pos (by rw [← HM.out, HX.out, HD.out])]
                    rfl
                  have hk := Lib.hid hk0
                  clear hk0
                  have HI := Lib.hid (show RdI wr p2 (seerList n T j) from rdI_own HS.out.own (seerList_length _ _ _))
                  have HL2 := Lib.hid (HL.out.below (HS.out.bel.mono (Nat.le_refl _)))
                  go_wp2_with fail
                  go_quiet (fail)
                  have HI2 := Lib.hid (show RdI (wr.drewN nq) p2 (seerList n T j) from HI.out)
                  have HB5 := Lib.hid (show Below w.heap.size w (wr.drewN nq) from ⟨(HB3.out.trans (HS.out.bel.mono HB3.out.size)).os, (HB3.out.trans (HS.out.bel.mono HB3.out.size)).tape, (HB3.out.trans (HS.out.bel.mono HB3.out.size)).output, (HB3.out.trans (HS.out.bel.mono HB3.out.size)).size, (HB3.out.trans (HS.out.bel.mono HB3.out.size)).block⟩)
                  have HKs := Lib.hid (show Blk (wr.drewN nq) bb (seerCells n (T + j)) 138 from by have := (HS.out.bel.block bb HK3.out.lt).trans HK3.out; rw [hk.out] at this; exact this)
                  have hjl := HS.out.le
                  have HL3 := Lib.hid (show RdI (wr.drewN nq) lp (seerList n T j) by have := HL2.out; rw [hk.out] at this; exact this)
                  clear HS HI HL2 HL hcx ct s0 s1 e1 e2 e3 e4 e5
                  generalize World.drewN _ nq = w5 at *
                  have HE := Lib.hid (show Calls Tryd.prog 20 #[.slice lp cn lc, .slice p2 j c2] w5 _ by have := ints_same lp p2 lc c2 (seerList n T j) w5 HL3.out HI2.out (by rw [seerList_length]; omega); rw [seerList_length] at this; rw [hk.out]; exact this)
                  go_wp2_with fail
                  refine HE.out.mono ?_
                  rintro e w' ⟨rfl, q5, rfl⟩
                  have HB6 := Lib.hid (show Below w.heap.size w (w5.drewN q5) from ⟨HB5.out.os, HB5.out.tape, HB5.out.output, HB5.out.size, HB5.out.block⟩)
                  have HKs2 := Lib.hid (show Blk (w5.drewN q5) bb (seerCells n (T + j)) 138 from HKs.out)
                  clear HB5 HKs HE
                  generalize World.drewN _ q5 = w6 at *
                  go_wp2
                  go_roundw
                  case rel => exact ⟨t + 1, T + j, by omega, by go_num, by go_num, (by
                    have e : (t + 1) * 15 = t * 15 + 15 := by omega
                    omega), HKs2.out, HB6.out⟩
                  case measure => simp [intOf]; omega
            · have hji : ¬ (j : Int) < (n : Int) - 1 := by omega
              have dj : decide ((j : Int) < (n : Int) - 1) = false := decide_eq_false hji
              have hk0 : cn = j := by
                rw [← HCN.out, HS.out.cnt]
                rw [show n - 1 - j = 0 by omega]
                rfl
              have hk := Lib.hid hk0
              clear hk0
              have HI := Lib.hid (show RdI wr p2 (seerList n T j) from rdI_own HS.out.own (seerList_length _ _ _))
              have HL2 := Lib.hid (HL.out.below (HS.out.bel.mono (Nat.le_refl _)))
              go_wp2_with fail
              go_quiet (fail)
              have HI2 := Lib.hid (show RdI (wr.drewN nq) p2 (seerList n T j) from HI.out)
              have HB5 := Lib.hid (show Below w.heap.size w (wr.drewN nq) from ⟨(HB3.out.trans (HS.out.bel.mono HB3.out.size)).os, (HB3.out.trans (HS.out.bel.mono HB3.out.size)).tape, (HB3.out.trans (HS.out.bel.mono HB3.out.size)).output, (HB3.out.trans (HS.out.bel.mono HB3.out.size)).size, (HB3.out.trans (HS.out.bel.mono HB3.out.size)).block⟩)
              have HKs := Lib.hid (show Blk (wr.drewN nq) bb (seerCells n (T + j)) 138 from by have := (HS.out.bel.block bb HK3.out.lt).trans HK3.out; rw [hk.out] at this; exact this)
              have hjl := HS.out.le
              have HL3 := Lib.hid (show RdI (wr.drewN nq) lp (seerList n T j) by have := HL2.out; rw [hk.out] at this; exact this)
              clear HS HI HL2 HL hcx ct s0 s1 e1 e2 e3 e4 e5
              generalize World.drewN _ nq = w5 at *
              have HE := Lib.hid (show Calls Tryd.prog 20 #[.slice lp cn lc, .slice p2 j c2] w5 _ by have := ints_same lp p2 lc c2 (seerList n T j) w5 HL3.out HI2.out (by rw [seerList_length]; omega); rw [seerList_length] at this; rw [hk.out]; exact this)
              go_wp2_with fail
              refine HE.out.mono ?_
              rintro e w' ⟨rfl, q5, rfl⟩
              have HB6 := Lib.hid (show Below w.heap.size w (w5.drewN q5) from ⟨HB5.out.os, HB5.out.tape, HB5.out.output, HB5.out.size, HB5.out.block⟩)
              have HKs2 := Lib.hid (show Blk (w5.drewN q5) bb (seerCells n (T + j)) 138 from HKs.out)
              clear HB5 HKs HE
              generalize World.drewN _ q5 = w6 at *
              go_wp2
              go_roundw
              case rel => exact ⟨t + 1, T + j, by omega, by go_num, by go_num, (by
                have e : (t + 1) * 15 = t * 15 + 15 := by omega
                omega), HKs2.out, HB6.out⟩
              case measure => simp [intOf]; omega
        · have hne : ((Lt : Int) != (n : Int)) = true := by simp; omega
          have hne2 : (Lt != n) = true := by simpa using hLn
          go_wp2_with fail
          refine (seer_take_bad bb n T At Lt Ct _ HK2.out h16 hLm2 hLn).mono ?_
          rintro e w' ⟨rfl, rfl⟩
          clear hLn
          go_wp2_with fail
          refine (error_hit 2 2 _ (HG.out.below hpos HB2.out)).mono ?_
          rintro e w3 ⟨rfl, hb3⟩
          have HK5 := Lib.hid (show Blk w3 bb _ _ from (hb3.block bb HK2.out.lt).trans HK2.out)
          have HB5 := Lib.hid (HB2.out.trans (hb3.mono HB2.out.size))
          clear hb3
          go_wp2
          go_roundw
          case rel => exact ⟨t + 1, T, by omega, by go_num, rfl, by omega, HK5.out, HB5.out⟩
          case measure => simp [intOf]; omega
      · go_wp2
        go_ret
        exact ⟨rfl, HB2.out⟩
end Go.Proofs.YtkehhfgoikbciaaDoor
