/- granarylaw3.RingOnce returns true, and writes nothing that was there. -/
import Derived.Test.YtlcjikeolfebnaaSeer
import Derived.Test.YtlcjikeolfebnaaOpsRd
import Derived.Test.YtlcjikeolfebnaaMem
import Derived.WalkSmall
namespace Go.Proofs.Ytlcjikeolfebnaa
open Go.RowKit Go.WideShapes
set_option linter.unusedVariables false

/-- what the phases say behind P puts: in the slots of the next n puts stands what was there a round ago -/
def Phases (n P : Nat) (phs : List Bool) : Prop := phs.length = n ∧ ∀ q, P ≤ q → q < P + n → phs.getD (q % n) false = seerDown n q
theorem seerDown_round (n q : Nat) (h : 0 < n) : seerDown n (q + n) = !seerDown n q := by
  unfold seerDown
  rw [Nat.add_div_right _ h]
  rcases Nat.mod_two_eq_zero_or_one (q / n) with e | e
  · simp [e]; omega
  · simp [e]; omega
theorem phases_0 (n : Nat) (h : 0 < n) : Phases n 0 (List.replicate n false) := by
  refine ⟨by simp, fun q h1 h2 => ?_⟩
  have : q / n = 0 := Nat.div_eq_of_lt (by omega)
  have hm := Nat.mod_lt q h
  simp [seerDown, this, List.getD, hm]
theorem mod_inj (n a b : Nat) (h : a < b) (h2 : b < a + n) : a % n ≠ b % n := by
  intro e
  have e1 := Nat.div_add_mod a n
  have e2 := Nat.div_add_mod b n
  have : n * (b / n) - n * (a / n) = b - a := by omega
  rw [← Nat.mul_sub] at this
  have h3 : b - a < n := by omega
  rcases Nat.eq_zero_or_pos (b / n - a / n) with q | q
  · rw [q] at this; omega
  · have := Nat.le_mul_of_pos_right n q; omega
theorem phases_put (n P : Nat) (phs : List Bool) (h0 : 0 < n) (h : Phases n P phs) : Phases n (P + 1) (phs.set (P % n) (!seerDown n P)) := by
  obtain ⟨h1, h2⟩ := h
  refine ⟨by simpa using h1, fun q q1 q2 => ?_⟩
  have hm := Nat.mod_lt P h0
  by_cases e : q = P + n
  · subst e
    rw [seerDown_round n P h0, Nat.add_mod_right]
    simp [List.getD, h1, hm]
  · have hne := mod_inj n P q (by omega) (by omega)
    rw [← h2 q (by omega) (by omega)]
    simp [List.getD, hne]
theorem phases_count (n P : Nat) (phs : List Bool) (h0 : 0 < n) (h : Phases n P phs) : ∀ (f T : Nat), T ≤ P → P ≤ T + f → f < n → seerCount n phs T f = P - T
  | 0, T, h1, h2, _ => by simp [seerCount]; omega
  | f + 1, T, h1, h2, h3 => by
    unfold seerCount
    by_cases e : T = P
    · subst e
      rw [if_pos (h.2 T (by omega) (by omega))]; omega
    · have q := h.2 (T + n) (by omega) (by omega)
      rw [Nat.add_mod_right, seerDown_round n T h0] at q
      rw [if_neg (by rw [q]; simp), phases_count n P phs h0 h f (T + 1) (by omega) (by omega) (by omega)]; omega

/-- behind P puts, T of them taken and told -/
structure ROnce (w : World) (pb sb fb : Nat) (sp : Option Addr) (n P T : Nat) (wr : World) : Prop where
  post : Blk wr pb (postCells sp n (T % n) (P % n) (seerDown n P)) 112
  seer : Blk wr sb (seerCells n T) 114
  phases : ∃ phs : List Bool, Blk wr fb (phs.map Value.bool).toArray 4 ∧ Phases n P phs
  below : Below w.heap.size w wr
  tp : T ≤ P
  pn : P ≤ T + (n - 1)

theorem madeCells_bool (n : Nat) : madeCells #[.bool false] n = ((List.replicate n false).map Value.bool).toArray := by
  apply Array.toList_inj.1
  rw [toList_madeCells_one]
  simp
theorem putDown_step (n P : Nat) (h : 0 < n) : putDown n (P % n) (seerDown n P) = seerDown n (P + 1) := by
  unfold putDown
  rw [seerDown_step n P h]
  have hm := Nat.mod_lt P h
  by_cases e : P % n + 1 = n
  · rw [if_pos e, if_pos (by rw [e]; exact Nat.mod_self n)]
  · rw [if_neg e, if_neg (by rw [Nat.mod_eq_of_lt (by omega)]; omega)]

theorem Keep.belowOf {w a b : World} {p : Nat} (h : Below w.heap.size w a) (k : Keep (· = p) a b) (hp : w.heap.size ≤ p) : Below w.heap.size w b :=
  h.trans (k.below w.heap.size h.size (fun k e => by omega))
theorem ROnce.drewN {w : World} {pb sb fb : Nat} {sp : Option Addr} {n P T : Nat} {wr : World} (h : ROnce w pb sb fb sp n P T wr) (q : Nat) : ROnce w pb sb fb sp n P T (wr.drewN q) :=
  ⟨h.post, h.seer, h.phases, below_drewN h.below q, h.tp, h.pn⟩
theorem phs_cell {w : World} {fb : Nat} {phs : List Bool} (h : Blk w fb (phs.map Value.bool).toArray 4) (i : Nat) (hi : i < phs.length) : w.cell? ⟨fb, 0 + i, none⟩ = some (.bool (phs.getD i false)) := by
  rw [h.cell]
  simp [List.getD, List.getElem?_eq_getElem hi]

set_option maxRecDepth 100000 in
set_option maxHeartbeats 4000000 in
theorem ringOnce_walk (w : World) (n : Int) (n0 : -9223372036854775808 ≤ n) (n1 : n ≤ 9223372036854775807) (a : Option Addr) (len cap : Nat) (z : Nat → Nat → Int) (hz : IsPairs w a len z) :
    Calls Try.prog 8 #[.int .i64 n, .slice a len cap] w fun e w' => e = .returned (.bool true) ∧ Below w.heap.size w w' := by
  have hlen : len * 16 ≤ 140737488351232 := by rcases hz with h | ⟨_, _, _, h, _⟩ <;> omega
  have Hz := Lib.hid hz
  clear hz
  by_cases hbad : n < 2 ∨ 16 < n
  · have Hb := Lib.hid hbad
    have hB : (decide (n < 2) || decide (16 < n)) = true := by simp; omega
    have HB := Lib.hid hB
    clear hbad hB
    go_enter Try.func8, Try.ntmps8
    go_wp2_with fail
    refine (post_new_bad _ _ Hb.out).mono ?_
    rintro e w' ⟨rfl, rfl⟩
    unfold ringErr
    go_wp2
    all_goals (go_ret; refine ⟨?_, Below.refl _ _⟩)
    all_goals (have := HB.out; simp_all)
  obtain ⟨n, rfl⟩ := Int.eq_ofNat_of_zero_le (show 0 ≤ n by omega)
  have h2 : 2 ≤ n := by omega
  have h16 : n ≤ 16 := by omega
  clear hbad n0 n1
  have hmk := fun (w : World) => run_make_row' (P := Try.prog) 58 4 (.bool false) 1 Try.underlying58 (by kernel_rfl) rfl .i64 .i64 n (by omega) (by omega) w
  go_enter Try.func8, Try.ntmps8
  go_wp2_with fail
  refine (post_new_ok n _ h2 h16).mono ?_
  rintro e w1 ⟨rfl, hpo, hw1⟩
  go_wp2_with fail
  refine (seer_new_ok n _ h2 h16).mono ?_
  rintro e w2 ⟨rfl, hse, hw2⟩
  have hB1 : w.heap.size ≤ w1.heap.size := hw1.size
  have hpo2 : Blk w2 (w.heap.size + 1) (postCells (some ⟨w.heap.size, 0, none⟩) n 0 0 false) 112 := (Keep.ofBelow (S := fun _ => False) hw2 (fun k h1 h2 => absurd h1 (by omega))).blk hpo (fun h => h)
  have hps : w.heap.size + 1 ≠ w1.heap.size := by have := hpo.lt; omega
  have hw12 := hw1.trans (hw2.mono hB1)
  have hsl := hse.lt
  clear hpo hw1 hw2
  generalize hpb : w.heap.size + 1 = pb at hpo2 hps ⊢
  have hPB : w.heap.size ≤ pb := by omega
  generalize hsb : w1.heap.size = sb at hse hps hsl ⊢
  have hSB : w.heap.size ≤ sb := by omega
  clear hB1
  have hfs : pb < w2.heap.size := hpo2.lt
  have hPF : pb ≠ w2.heap.size := by omega
  have hSF : sb ≠ w2.heap.size := by omega
  have hFB : w.heap.size ≤ w2.heap.size := hw12.size
  clear hpb hsb
  go_wp2_with fail
  generalize hfb : w2.heap.size = fb at hPF hSF hFB
  have st : ROnce w pb sb fb (some ⟨w.heap.size, 0, none⟩) n 0 0 (w2.alloc (.cells (madeCells #[.bool false] n) 4 (0, 0))) := by
    refine ⟨?_, hse.alloc _, ⟨List.replicate n false, ?_, phases_0 n (by omega)⟩, hw12.alloc (by omega) _, Nat.le_refl _, by omega⟩
    · have := hpo2.alloc (.cells (madeCells #[.bool false] n) 4 (0, 0))
      simpa [seerDown] using this
    · subst hfb; exact (Blk.new _ _ _).of (madeCells_bool n)
  have Hst := Lib.hid st
  have Hfb := Lib.hid hfb
  clear st hfb hse hpo2 hw12
  generalize some (⟨w.heap.size, 0, none⟩ : Addr) = sp at Hst
  go_loopw [9, 10, 11] (fun ps ts i wr => ∃ P T k : Nat, k ≤ len ∧ P ≤ k ∧ ps = .int .i64 P ∧ ts = .int .i64 T ∧ i = .int .i64 k ∧ ROnce w pb sb fb sp n P T wr) (fun _ _ i _ => len - (intOf i).toNat)
  case atStart => exact ⟨0, 0, 0, by omega, by omega, rfl, rfl, rfl, Hst.out⟩
  case round =>
    obtain ⟨P, T, k, hk, hP, rfl, rfl, rfl, hr⟩ := hrel
    have tp := hr.tp
    have pn := hr.pn
    by_cases hlt : k < len
    · obtain ⟨b, off, rfl, _, hbl, hcell, _⟩ := Hz.out.resolve_left (by omega)
      have c := hcell k 0 hlt (by omega)
      rw [← hr.below.cell (p := ⟨b, off + k * 2 + 0, none⟩) hbl] at c
      generalize z k 0 = v at c
      clear hcell
      rw [Nat.add_zero] at c
      obtain ⟨phs, hphb, hph⟩ := hr.phases
      have hmT := Nat.mod_lt T (show 0 < n by omega)
      have hmP := Nat.mod_lt P (show 0 < n by omega)
      have Hr := Lib.hid hr
      have Hphb := Lib.hid hphb
      have Hph := Lib.hid hph
      clear hr hphb hph
      by_cases hv : v = 1
      · subst hv
        by_cases hful : P = T + (n - 1)
        · have hf : (P % n + 1) % n = T % n := by
            rw [Nat.mod_add_mod, hful, show T + (n - 1) + 1 = T + n by omega, Nat.add_mod_right]
          have hpt : ((P : Int) - T != (n : Int) - 1) = false := by simp; omega
          clear hful
          have Hf := Lib.hid hf
          clear hf
          go_wp2_with fail
          refine (post_put_full pb sp n (T % n) (P % n) (seerDown n P) _ Hr.out.post (by omega) h16 hmP hmT Hf.out).mono ?_
          rintro e w' ⟨rfl, q, rfl⟩
          unfold ringErr
          go_wp2
          go_roundw
          case rel => exact ⟨P, T, k + 1, by omega, by omega, rfl, rfl, by go_num, Hr.out.drewN q⟩
          case measure => simp [intOf]; omega
        · have hf : (P % n + 1) % n ≠ T % n := by
            rw [Nat.mod_add_mod]
            exact fun e => mod_inj n T (P + 1) (by omega) (by omega) e.symm
          have hroom : P + 1 ≤ T + (n - 1) := by omega
          clear hful
          have Hf := Lib.hid hf
          clear hf
          go_wp2_with fail
          refine (post_put_room pb sp n (T % n) (P % n) (seerDown n P) _ Hr.out.post (by omega) h16 hmP hmT Hf.out).mono ?_
          rintro e w4 ⟨rfl, hb4, hk4⟩
          rw [Nat.mod_add_mod, putDown_step n P (by omega)] at hb4
          have hph4 := hk4.blk Hphb.out (fun e => hPF e.symm)
          have hse4 := hk4.blk Hr.out.seer (fun e => hps e.symm)
          have hbe4 := Keep.belowOf Hr.out.below hk4 hPB
          have f4 := hph4.free (P % n)
          have l4 := hph4.lt
          have c4 : w4.cell? ⟨fb, P % n, none⟩ = some (.bool (phs.getD (P % n) false)) := by
            have := phs_cell hph4 (P % n) (by rw [Hph.out.1]; exact hmP)
            rwa [Nat.zero_add] at this
          generalize phs.getD (P % n) false = ov at c4
          have Hb4 := Lib.hid hb4
          have Hph4 := Lib.hid hph4
          have Hse4 := Lib.hid hse4
          have Hbe4 := Lib.hid hbe4
          clear hb4 hph4 hse4 hbe4 hk4
          generalize hpm : P % n = pm at *
          have Hpm := Lib.hid hpm
          clear hpm
          have hg1 : (decide ((n : Int) ≤ (pm : Int))) = false := by simp; omega
          go_wp2
          go_roundw
          case rel =>
            refine ⟨P + 1, T, k + 1, by omega, by omega, by go_num, rfl, by go_num, ?_, ?_, ⟨phs.set pm (!seerDown n P), ?_, ?_⟩, ?_, by omega, by omega⟩
            · exact Hb4.out.setOther (fun e => hPF e.symm) _
            · exact Hse4.out.setOther (fun e => hSF e.symm) _
            · refine (Hph4.out.set pm _).of ?_
              rw [List.setIfInBounds_toArray, List.map_set]
            · rw [← Hpm.out]; exact phases_put n P phs (by omega) Hph.out
            · exact Hbe4.out.setCell hFB _
          case measure => simp [intOf]; omega
      · have hv1 : (v == 1) = false := by simpa using hv
        clear hv
        have hcn := phases_count n P phs (by omega) Hph.out (n - 1) T tp pn (by omega)
        have htk := seer_take_ok sb n T fb 0 n phs wr Hr.out.seer h2 h16 (fun e => hSF e.symm) Hphb.out.lt (fun i hi => phs_cell Hphb.out i (by rw [Hph.out.1]; exact hi))
        rw [hcn] at htk
        have Htk := Lib.hid htk
        clear htk hcn
        go_wp2_with fail
        refine Htk.out.mono ?_
        rintro e w4 ⟨v4, rfl, hs4⟩
        obtain ⟨p4, c4, hv4⟩ := ownsRow_form hs4.own
        subst hv4
        obtain ⟨m, hm⟩ : ∃ m, m = P - T := ⟨_, rfl⟩
        rw [← hm] at hs4 ⊢
        have hPm : P = T + m := by omega
        have hse4 := hs4.blk
        have hown := hs4.own
        have hpo4 := hs4.keep.blk Hr.out.post hps
        have hph4 := hs4.keep.blk Hphb.out (fun e => hSF e.symm)
        have hbe4 := Keep.belowOf Hr.out.below hs4.keep hSB
        have hcell : ∀ j, j < m → ∃ g, p4 = some ⟨g, 0, none⟩ ∧ w4.cell? ⟨g, j, none⟩ = some (.int .i64 ((T + j) % n : Nat)) := by
          intro j hj
          obtain ⟨_, ⟨_, h0⟩ | ⟨g, cap', cur, he, _⟩⟩ := id hown
          · omega
          · simp only [Value.slice.injEq] at he
            obtain ⟨rfl, _, rfl⟩ := he
            refine ⟨g, rfl, ?_⟩
            rw [hown.cellAt j (by omega)]
            simp [seerList, hj]
        rw [← hPm] at hse4
        have Hcell := Lib.hid hcell
        have Hse4 := Lib.hid hse4
        have Hpo4 := Lib.hid hpo4
        have Hph4 := Lib.hid hph4
        have Hbe4 := Lib.hid hbe4
        have HPm := Lib.hid hPm
        have hPm1 : T + m ≤ P := by omega
        have hPm2 : P ≤ T + m := by omega
        clear hs4 hm hPm hcell hse4 hpo4 hph4 hbe4 hown Htk
        go_wp2_with fail
        go_loopw [10, 17] (fun ts jj wr => ∃ j q : Nat, j ≤ m ∧ ts = .int .i64 ((T + j : Nat) : Int) ∧ jj = .int .i64 j ∧ wr = w4.drewN q) (fun _ jj _ => m - (intOf jj).toNat)
        case atStart => exact ⟨0, 0, by omega, rfl, rfl, rfl⟩
        case round =>
          obtain ⟨j, q, hj, rfl, rfl, rfl⟩ := hrel
          by_cases hjm : j < m
          · obtain ⟨g, rfl, hc⟩ := Hcell.out j hjm
            have hmod : (((T + j : Nat) : Int)) % (n : Int) = (((T + j) % n : Nat) : Int) := by simp
            have hc' : w4.cell? ⟨g, j, none⟩ = some (.int .i64 (((T + j : Nat) : Int) % (n : Int))) := by rw [hmod]; exact hc
            have hz : ((n : Int) == 0) = false := by simp; omega
            have b1 : (0 : Int) ≤ ((T + j : Nat) : Int) := by omega
            have b2 : ((T + j : Nat) : Int) ≤ 17592186044416 := by omega
            clear hmod hc
            generalize hy : ((T + j : Nat) : Int) = y at *
            have Hy := Lib.hid hy
            clear hy
            go_wp2
            go_quiet (fail)
            go_wp2
            go_roundw
            case rel => exact ⟨j + 1, _, by omega, by rw [← Hy.out]; go_num, by go_num, rfl⟩
            case measure => simp [intOf]; omega
          · obtain rfl : j = m := by omega
            have e : ((T + j : Nat) : Int) = (P : Int) := by omega
            rw [e]
            clear e
            have hz : ((n : Int) == 0) = false := by simp; omega
            have hPb : (P : Int) ≤ 17592186044416 := by omega
            go_wp2_with fail
            rw [show (P : Int) % (n : Int) = ((P % n : Nat) : Int) from by simp]
            refine (post_free_ok pb sp n (T % n) (P % n) (seerDown n P) (P % n) _ (Hpo4.out.drewN q) h16 hmP).mono ?_
            rintro e w6 ⟨rfl, hpo6, hk6⟩
            have hse6 := hk6.blk (Hse4.out.drewN q) (fun e => hps e.symm)
            have hph6 := hk6.blk (Hph4.out.drewN q) (fun e => hPF e.symm)
            have hbe6 := Keep.belowOf (below_drewN Hbe4.out q) hk6 hPB
            have hr6 : ROnce w pb sb fb sp n P P w6 := ⟨hpo6, hse6, ⟨phs, hph6, Hph.out⟩, hbe6, Nat.le_refl _, by omega⟩
            have Hr6 := Lib.hid hr6
            clear hpo6 hse6 hph6 hbe6 hk6 hr6
            go_wp2
            go_roundw
            case rel => exact ⟨P, P, k + 1, by omega, by omega, rfl, rfl, by go_num, Hr6.out⟩
            case measure => simp [intOf]; omega
    · obtain rfl : k = len := by omega
      have hge : (T : Int) ≤ P := by omega
      go_wp2
      go_ret
      exact ⟨ret_bool (by simp), hr.below⟩
end Go.Proofs.Ytlcjikeolfebnaa
