/- granarylaw3.BellTells returns true, and writes nothing that was there. -/
import Derived.Test.YtlcjikeolfebnaaBell
import Derived.Test.YtlcjikeolfebnaaPick
import Derived.Test.YtlcjikeolfebnaaRd
import Derived.Lib.Hide
namespace Go.Proofs.Ytlcjikeolfebnaa
open Go.RowKit
set_option linter.unusedVariables false

/-- behind k calls, p of them posts -/
structure BInv (l d p k : Int) (s : BS) : Prop where
  hl : s.l = l
  hd : s.d = d
  n0 : 0 ≤ s.n
  r0 : 0 ≤ s.r
  rn : s.r + s.n ≤ p
  a0 : 0 ≤ s.a
  a1 : s.a ≤ k
theorem BInv.rung {l d p k : Int} {s : BS} (h : BInv l d p k s) (hk : 0 ≤ k) : BInv l d p k s.rung := by
  obtain ⟨h1, h2, h3, h4, h5, h6, h7⟩ := h
  unfold BS.rung
  split
  · constructor <;> simp only <;> omega
  · exact ⟨h1, h2, h3, h4, h5, h6, h7⟩
theorem BInv.post {l d p k : Int} {s : BS} (h : BInv l d p k s) (hk : 0 ≤ k) : BInv l d (p + 1) (k + 1) s.post := by
  obtain ⟨h1, h2, h3, h4, h5, h6, h7⟩ := h
  exact BInv.rung ⟨h1, h2, by simp only; omega, h4, by simp only; omega, h6, by simp only; omega⟩ (by omega)
theorem BInv.tick {l d p k : Int} {s : BS} (h : BInv l d p k s) (hk : 0 ≤ k) : BInv l d p (k + 1) s.tick := by
  obtain ⟨h1, h2, h3, h4, h5, h6, h7⟩ := h
  refine BInv.rung ⟨h1, h2, h3, h4, h5, ?_, ?_⟩ (by omega) <;> (simp only; split <;> omega)
theorem BInv.mask {l d p k : Int} {s : BS} (h : BInv l d p k s) (hk : 0 ≤ k) (on : Bool) : BInv l d p (k + 1) (s.mask on) := by
  obtain ⟨h1, h2, h3, h4, h5, h6, h7⟩ := h
  exact BInv.rung ⟨h1, h2, h3, h4, h5, h6, by simp only; omega⟩ (by omega)
theorem BInv.small {l d p k : Int} {s : BS} (h : BInv l d p k s) (hp : p ≤ 1000000000000000000) (hk : k ≤ 1000000000000000000) : s.small := by
  obtain ⟨h1, h2, h3, h4, h5, h6, h7⟩ := h
  constructor <;> omega

/-- behind the mask is off, and j ticks: W0 waited ahead of it, R0 rings had been -/
structure BOff (l d p k W0 R0 j : Int) (s : BS) : Prop extends BInv l d p k s where
  m : s.m = false
  late : s.n = 0 ∨ (j ≤ s.a ∧ s.a < d)
  r1 : R0 ≤ s.r
  some : 0 < W0 → (0 < s.n ∨ R0 < s.r)
  non : W0 = 0 → s.n = 0 ∧ s.r = R0
theorem BOff.start {l d p k : Int} {s : BS} (h : BInv l d p k s) (hk : 0 ≤ k) : BOff l d p (k + 1) s.n s.r 0 (s.mask false) := by
  refine ⟨h.mask hk false, ?_, ?_, ?_, ?_, ?_⟩
  all_goals obtain ⟨h1, h2, h3, h4, h5, h6, h7⟩ := h
  all_goals unfold BS.mask BS.rung
  all_goals split
  all_goals simp_all
  all_goals omega
theorem BOff.tick {l d p k W0 R0 j : Int} {s : BS} (h : BOff l d p k W0 R0 j s) (hk : 0 ≤ k) : BOff l d p (k + 1) W0 R0 (j + 1) s.tick := by
  refine ⟨h.toBInv.tick hk, ?_, ?_, ?_, ?_, ?_⟩
  all_goals obtain ⟨⟨h1, h2, h3, h4, h5, h6, h7⟩, h8, h9, h10, h11, h12⟩ := h
  all_goals unfold BS.tick BS.rung
  all_goals by_cases hn : 0 < s.n
  all_goals simp only [hn, if_true, if_false]
  all_goals split
  all_goals simp_all
  all_goals omega

set_option maxRecDepth 100000 in
set_option maxHeartbeats 2000000 in
theorem bellTells_walk (w : World) (l : Int) (hl0 : -9223372036854775808 ≤ l) (hl1 : l ≤ 9223372036854775807) (d : Int) (hd0 : -9223372036854775808 ≤ d) (hd1 : d ≤ 9223372036854775807)
    (a : Option Addr) (len cap : Nat) (z : List Int) (hz : IsRow .i64 8 w a len cap z) :
    Calls Try.prog 4 #[.int .i64 l, .int .i64 d, .slice a len cap] w fun e w' => e = .returned (.bool true) ∧ Below w.heap.size w w' := by
  have hlen : len * 8 ≤ 140737488351232 := by
    rcases hz with ⟨_, h, _⟩ | ⟨_, _, h1, h2, _⟩ <;> omega
  have hz' := Lib.hid hz
  clear hz
  go_enter Try.func4, Try.ntmps4
  go_wp2_with fail
  refine (bell_new_ok _ _ _ (by omega) (by omega) (by omega) (by omega)).mono ?_
  rintro e w' ⟨rfl, rfl⟩
  go_wp2_with fail
  refine (bell_post _ ⟨1, 0, 0, 0, 0, false⟩ _ (Blk.new _ _ _) (by constructor <;> simp)).mono ?_
  rintro e w1 ⟨rfl, hb1, hk1⟩
  have hw1 : Below w.heap.size w w1 := ((Below.refl _ _).alloc (Nat.le_refl _) _).trans (hk1.below w.heap.size (by simp) (fun k e => by omega))
  have e1 : (BS.post ⟨1, 0, 0, 0, 0, false⟩) = ⟨1, 0, 0, 0, 1, false⟩ := rfl
  rw [e1] at hb1
  clear e1 hk1
  go_wp2_with fail
  refine (bell_rings _ _ _ hb1).mono ?_
  rintro e w' ⟨rfl, rfl⟩
  clear hb1
  by_cases hbad : l < 1 ∨ 64 < l ∨ d < 0 ∨ 1000 < d
  · have Hb := Lib.hid hbad
    have hB : (decide (l < 1) || decide (64 < l) || decide (d < 0) || decide (1000 < d)) = true := by simp; omega
    have HB := Lib.hid hB
    clear hbad hB
    go_wp2_with fail
    refine (bell_new_bad _ _ _ Hb.out).mono ?_
    rintro e w' ⟨rfl, rfl⟩
    unfold rangeErr
    go_wp2
    all_goals (go_ret; refine ⟨?_, hw1⟩)
    all_goals (have := HB.out; simp_all)
  · have h1 : 1 ≤ l := by omega
    have h2 : l ≤ 64 := by omega
    have h3 : 0 ≤ d := by omega
    have h4 : d ≤ 1000 := by omega
    clear hbad
    go_wp2_with fail
    refine (bell_new_ok _ _ _ h1 h2 h3 h4).mono ?_
    rintro e w' ⟨rfl, rfl⟩
    go_wp2_with fail
    have hb2 := Blk.new w1 (BS.cells ⟨l, d, 0, 0, 0, false⟩) 90
    have hB : w.heap.size ≤ w1.heap.size := hw1.size
    have hw2 : Below w.heap.size w (w1.alloc (.cells (BS.cells ⟨l, d, 0, 0, 0, false⟩) 90 (0, 0))) := hw1.alloc hB _
    clear hw1
    generalize hB2 : w1.heap.size = B at *
    clear hB2
    go_loopw [11, 12] (fun ps i wr => ∃ (k p : Nat) (s : BS), k ≤ len ∧ p ≤ k ∧ ps = .int .i64 p ∧ i = .int .i64 k ∧ BInv l d p k s ∧ Blk wr B s.cells 90 ∧ Below w.heap.size w wr) (fun _ i _ => len - (intOf i).toNat)
    case atStart => exact ⟨0, 0, _, Nat.zero_le _, Nat.le_refl _, rfl, rfl, by constructor <;> simp, hb2, hw2⟩
    case round =>
      obtain ⟨k, p, s, hk, hp, rfl, rfl, hi, hb, hw⟩ := hrel
      clear hb2 hw2
      by_cases hlt : k < len
      · obtain ⟨b, off, rfl, hlc, _, hzl, hbW, hcell, hwf⟩ := hz'.out.at (by omega)
        have hc := hcell wr hw k (by omega)
        generalize z.getD k 0 = v at hc
        clear hcell hwf
        by_cases h1' : v = 1
        · subst h1'
          go_wp2_with fail
          refine (bell_post _ s _ hb (hi.small (by omega) (by omega))).mono ?_
          rintro e w2 ⟨rfl, hb', hk'⟩
          go_wp2
          go_roundw
          case rel => exact ⟨k + 1, p + 1, s.post, by omega, by omega, by go_num, by go_num, hi.post (by omega), hb', hw.trans (hk'.below w.heap.size hw.size (fun k e => by omega))⟩
          case measure => simp [intOf]; omega
        · by_cases h2' : v = 2
          · subst h2'
            go_wp2_with fail
            refine (bell_tick _ s _ hb (hi.small (by omega) (by omega))).mono ?_
            rintro e w2 ⟨rfl, hb', hk'⟩
            go_wp2
            go_roundw
            case rel => exact ⟨k + 1, p, s.tick, by omega, by omega, rfl, by go_num, hi.tick (by omega), hb', hw.trans (hk'.below w.heap.size hw.size (fun k e => by omega))⟩
            case measure => simp [intOf]; omega
          · have t1 : (v == 1) = false := by simpa using h1'
            have t2 : (v == 2) = false := by simpa using h2'
            clear h1' h2'
            go_wp2_with fail
            refine (bell_mask _ s _ _ hb (hi.small (by omega) (by omega))).mono ?_
            rintro e w2 ⟨rfl, hb', hk'⟩
            go_wp2
            go_roundw
            case rel => exact ⟨k + 1, p, _, by omega, by omega, rfl, by go_num, hi.mask (by omega) _, hb', hw.trans (hk'.below w.heap.size hw.size (fun k e => by omega))⟩
            case measure => simp [intOf]; omega
      · have hkk : (k : Int) ≤ 17592186044416 := by omega
        have hpp : (p : Int) ≤ 17592186044416 := by omega
        obtain rfl : k = len := by omega
        clear hlt hk hp hz'
        go_wp2_with fail
        refine (bell_waits _ _ _ hb).mono ?_
        rintro e w' ⟨rfl, rfl⟩
        go_wp2_with fail
        refine (bell_rings _ _ _ hb).mono ?_
        rintro e w' ⟨rfl, rfl⟩
        go_wp2_with fail
        refine (bell_mask _ s _ _ hb (hi.small (by omega) (by omega))).mono ?_
        rintro e w2 ⟨rfl, hb', hk'⟩
        have hw2 := hw.trans (hk'.below w.heap.size hw.size (fun k e => by omega))
        have ho := BOff.start hi (by omega)
        clear hk' hw hb
        have hn0 := hi.n0
        have hr0 := hi.r0
        have hrn := hi.rn
        clear hi
        generalize s.mask false = s1 at *
        generalize s.n = W0 at *
        generalize s.r = R0 at *
        go_wp2_with fail
        obtain ⟨D, rfl⟩ := Int.eq_ofNat_of_zero_le h3
        go_loopw [15] (fun i wr => ∃ (j : Nat) (s : BS), j ≤ D ∧ i = .int .i64 j ∧ BOff l D p ((k : Int) + 1 + j) W0 R0 j s ∧ Blk wr B s.cells 90 ∧ Below w.heap.size w wr) (fun i _ => D - (intOf i).toNat)
        case atStart => exact ⟨0, _, Nat.zero_le _, rfl, by simpa using ho, hb', hw2⟩
        case round =>
          obtain ⟨j, s2, hj, rfl, ho2, hb2, hw3⟩ := hrel
          by_cases hlt : j < D
          · go_wp2_with fail
            refine (bell_tick _ s2 _ hb2 (ho2.toBInv.small (by omega) (by omega))).mono ?_
            rintro e w4 ⟨rfl, hb4, hk4⟩
            go_wp2
            go_roundw
            case rel => exact ⟨j + 1, s2.tick, by omega, by go_num, by have := ho2.tick (by omega); simpa [Int.add_assoc] using this, hb4, hw3.trans (hk4.below w.heap.size hw3.size (fun k e => by omega))⟩
            case measure => simp [intOf]; omega
          · obtain rfl : j = D := by omega
            go_wp2_with fail
            refine (bell_rings _ _ _ hb2).mono ?_
            rintro e w' ⟨rfl, rfl⟩
            go_wp2_with fail
            refine (bell_waits _ _ _ hb2).mono ?_
            rintro e w' ⟨rfl, rfl⟩
            obtain ⟨⟨_, _, q1, q2, q3, q4, q5⟩, q6, q7, q8, q9, q10⟩ := ho2
            have q11 : s2.n = 0 := by omega
            clear ho hb' hb2 hw2
            generalize s2.r = R at *
            generalize s2.n = N at *
            subst q11
            clear q1 q4 q5 q6 q7
            by_cases hW : 0 < W0
            · have q12 : R0 < R := by have := q9 hW; omega
              clear q9 q10
              go_wp2
              go_ret
              exact ⟨ret_bool (by simp), hw3⟩
            · obtain rfl : W0 = 0 := by omega
              have q12 := (q10 rfl).2
              subst q12
              clear q9 q10
              go_wp2
              go_ret
              exact ⟨ret_bool (by simp), hw3⟩
end Go.Proofs.Ytlcjikeolfebnaa
