/- granarylaw3.PickShares returns true, and writes nothing that was there. -/
import Derived.Test.YtkehhfgoikbciaaPickGo
import Derived.Test.YtkehhfgoikbciaaPick
import Derived.Test.YtkehhfgoikbciaaRd
import Derived.Test.YtkehhfgoikbciaaBase2
import Derived.Lib.SliceRun
import Derived.Deep.OwnRows
namespace Go.Proofs.Ytkehhfgoikbciaa
open Go.RowKit Go.Shelf
set_option linter.unusedVariables false

/-- it is queue i's turn, of which it had q -/
def Due (ws : Nat → Int) (n i : Nat) (q : Nat) (k : Nat) (c : Int) : Prop :=
  (k = i ∧ c = ws i - q) ∨ (q = 0 ∧ c = 0 ∧ cyc k n 0 = i)
theorem Due.step {ws : Nat → Int} {n i q k : Nat} {c : Int} {j : Nat} {c' : Int} (h : Due ws n i q k c) (hn : 0 < n) (hq : (q : Int) < ws i) (hs : NextStep (fun _ => 1) ws n k c j c') : j = i ∧ c' = ws i - ((q + 1 : Nat) : Int) := by
  rcases h with ⟨rfl, rfl⟩ | ⟨rfl, rfl, rfl⟩
  · rcases hs with ⟨_, _, rfl, rfl⟩ | ⟨h, _⟩
    · exact ⟨rfl, by omega⟩
    · exfalso
      rcases h with h | h
      · simp at h
      · omega
  · rcases hs with ⟨_, h, _⟩ | ⟨_, ⟨i, hi, rfl, _, h⟩, rfl⟩
    · omega
    · have : i = 0 := by
        rcases Nat.eq_zero_or_pos i with e | e
        · exact e
        · have := h 0 e
          simp at this
      subst this
      exact ⟨rfl, by simp⟩
theorem Due.next {ws : Nat → Int} {n i : Nat} {k : Nat} {c : Int} {q : Nat} (h : Due ws n i q k c) (hi : i < n) (h0 : 0 < ws i) (hq : (q : Int) = ws i) : Due ws n (if i + 1 = n then 0 else i + 1) 0 k c := by
  rcases h with ⟨rfl, rfl⟩ | ⟨rfl, rfl, rfl⟩
  · refine .inr ⟨rfl, by omega, ?_⟩
    unfold cyc
    split
    · rename_i e; rw [Nat.add_zero, e, Nat.mod_self]
    · rw [Nat.add_zero, Nat.mod_eq_of_lt (by omega)]
  · omega

structure PShares (w wr : World) (b g cap n : Nat) (z : Nat → Int) (k : Nat) (c : Int) (g' : Nat) : Prop where
  p : PickAt wr b g cap n z k c
  f : PickFit n z k c
  bel : Below w.heap.size w wr
  z : WaitsAt wr b g' 0 n (fun _ => 1)

set_option maxRecDepth 100000 in
set_option maxHeartbeats 4000000 in
theorem pickShares_walk (w : World) (a0 : Option Addr) (len0 cap0 : Nat) (z0 : List Int) (hz0 : IsRow .i64 8 w a0 len0 cap0 z0) (q : Int) (hq0 : -9223372036854775808 ≤ q) (hq1 : q ≤ 9223372036854775807) :
    Calls Try.prog 4 #[.slice a0 len0 cap0, .int .i64 q] w fun e w' => e = .returned (.bool true) ∧ Below w.heap.size w w' := by
  obtain ⟨i0, hi, hz0', hz1, hz2⟩ := info_parts (P := Try.prog) (e := 3) (z := .int .i64 0) (size := 1) (bytes := 8) (by kernel_rfl)
  have Hi := Lib.hid hi
  have Hz0 := Lib.hid hz0'
  have Hz1 := Lib.hid hz1
  have Hz2 := Lib.hid hz2
  clear hi hz0' hz1 hz2
  have HZ0 := Lib.hid hz0.rowAt
  generalize hz : (fun i => z0.getD i 0) = z at HZ0
  clear hz0 hz z0
  go_enter Try.func4, Try.ntmps4
  go_wp2_with fail
  refine (pickFact_any _).mono ?_
  rintro e w1 ⟨rfl, hB1⟩
  have HB1 := Lib.hid hB1
  have HZ2 := Lib.hid (HZ0.out.below hB1)
  clear hB1
  go_wp2_with fail
  refine (new_any a0 len0 cap0 z _ HZ2.out).mono ?_
  rintro e w2 (⟨code, _, rfl, rfl⟩ | ⟨b, g, cap, rfl, hb, hg, hp, hf, hB2⟩)
  · go_wp2
    go_ret
    exact ⟨rfl, HB1.out⟩
  · have hs1 := HB1.out.size
    have HB := Lib.hid (HB1.out.trans (hB2.mono hs1))
    have hbB : w.heap.size ≤ b := by omega
    have n0 := hf.n0
    have n8 := hf.n8
    have Hp := Lib.hid hp
    have Hf := Lib.hid hf
    have hblt := hp.blk.lt
    clear hB2 hp hf hb hg hs1 HZ2 HB1
    have hs2 := HB.out.size
    go_wp2_with fail
    go_loopw [9, 10] (fun v i wr => ∃ t : Nat, t ≤ len0 ∧ i = .int .i64 t ∧ wr.ownsRow w2.heap.size 3 1 v t (List.replicate t (Value.int .i64 1)) ∧ Below w2.heap.size w2 wr) (fun _ i _ => len0 - (intOf i).toNat)
    case atStart => exact ⟨0, Nat.zero_le _, rfl, World.ownsRow_nil _ _ _ _, Below.refl _ _⟩
    case round =>
      obtain ⟨t, ht, rfl, hown, hB⟩ := hrel
      have Ho := Lib.hid hown
      have HB3 := Lib.hid hB
      clear hown hB
      by_cases hlt : t < len0
      · go_wp2_with (at_builtin; refine wpList_append_own _ rfl _ _ 22 rfl w2.heap.size 3 i0 (.int .i64 0) 1 8 Try.underlying22 Hi.out Hz0.out Hz1.out Hz2.out rfl (by decide) _ _ _ rfl (Ho.out.alloc _) ⟨wr.heap.size, 0, none⟩ 1 1 [.int .i64 1] rfl rfl ?c1 ?c2 ?c3 ?c4 ?c5 ?_)
        case c1 => exact one_news _ _ _ _ rfl
        case c2 => intro u hu; simp at hu; subst hu; rfl
        case c3 => unfold maxLen; omega
        case c4 => omega
        case c5 => have := HB3.out.size; simp; omega
        intro v' w3 hown' hgrow _
        have hB4 : Below w2.heap.size w2 w3 := (HB3.out.alloc HB3.out.size _).grown hgrow (by have := HB3.out.size; simp; omega) (fun k' hk' => by
          have h2 := Ho.out.2
          rcases h2 with ⟨e, _⟩ | ⟨g', _, _, e, hg', _⟩
          · rw [e] at hk'; cases hk'
          · rw [e] at hk'; cases hk'; exact hg')
        have Ho4 := Lib.hid hown'
        have HB4 := Lib.hid hB4
        clear hown' hgrow hB4
        go_wp2
        go_roundw
        case rel => exact ⟨t + 1, by omega, by go_num, by simpa [List.replicate_succ'] using Ho4.out, HB4.out⟩
        case measure => simp [intOf]; omega
      · obtain rfl : len0 = t := by omega
        have hform := Ho.out.2
        obtain ⟨e0, _⟩ | ⟨g', cap', cur, rfl, hg', hblk, hcap, _, hcsz, htake⟩ := hform
        · exfalso; omega
        have hW : WaitsAt wr b g' 0 len0 (fun _ => 1) := by
          refine ⟨by omega, (Array.getElem?_eq_some_iff.1 hblk).1, fun i hi => ?_⟩
          have e : wr.cell? ⟨g', 0 + i, none⟩ = cur[i]? := by simp [World.cell?, hblk]
          rw [e]
          have e2 : (cur.toList.take (len0 * 1))[i]? = some (Value.int .i64 1) := by rw [htake]; simp [hi]
          simpa [List.getElem?_take, hi] using e2
        obtain ⟨b0, off0, rfl, hb0, hc0⟩ := HZ0.out.2.2.resolve_left (by omega)
        have Hc0 := Lib.hid hc0
        have HP := Lib.hid (show PShares w wr b g cap len0 z 0 (z 0) g' from ⟨Hp.out.below HB3.out, Hf.out, HB.out.trans (HB3.out.mono HB.out.size), hW⟩)
        have Hfit := Lib.hid Hf.out.w0
        clear hW hblk htake Ho HB3 hcsz hc0 Hf Hp HZ0
        go_wp2_with fail
        have q0 := pickOf_0 q 4 (by omega)
        have q1 := pickOf_lt q 4 (by omega)
        go_loopw [11] (fun i wr => ∃ (t k : Nat) (c : Int), t ≤ 5 ∧ i = .int .i64 t ∧ PShares w wr b g cap len0 z k c g' ∧ Due z len0 0 0 k c) (fun i _ => 5 - (intOf i).toNat)
        case atStart => exact ⟨0, 0, z 0, by omega, rfl, HP.out, .inl ⟨rfl, by simp⟩⟩
        case round =>
          obtain ⟨t, k, c, ht, rfl, hP, hD⟩ := hrel
          have HP2 := Lib.hid hP
          have HD2 := Lib.hid hD
          clear HP hP hD
          go_wp2_with fail
          refine (pick_any q 4 _ hq0 hq1 (by omega) (by omega)).mono ?_
          rintro e w' ⟨rfl, rfl⟩
          by_cases hlt : (t : Int) < 1 + pickOf q 4
          · generalize pickOf q 4 = v at q0 q1 hlt ⊢
            go_wp2_with fail
            obtain ⟨wo, hwo⟩ : ∃ wo : World, wo = wr := ⟨_, rfl⟩
            subst hwo
            go_loopw [12] (fun i wr => ∃ (j k : Nat) (c : Int), j ≤ len0 ∧ i = .int .i64 j ∧ PShares w wr b g cap len0 z k c g' ∧ Due z len0 (if j = len0 then 0 else j) 0 k c) (fun i _ => len0 - (intOf i).toNat)
            case atStart => exact ⟨0, k, c, by omega, rfl, HP2.out, by rw [if_neg (by omega)]; exact HD2.out⟩
            case round =>
              obtain ⟨j, k2, c2, hj, rfl, hP, hD⟩ := hrel
              have HP3 := Lib.hid hP
              have HD3 := Lib.hid hD
              clear hP hD
              by_cases hlt3 : j < len0
              · go_wp2_with fail
                obtain ⟨wp, hwp⟩ : ∃ wp : World, wp = wr := ⟨_, rfl⟩
                subst hwp
                have hzj := Hfit.out j hlt3
                have hzj1 := hzj.1
                have hzj2 := hzj.2
                clear hzj
                go_loopw [13] (fun i wr => ∃ (kk k : Nat) (c : Int), (kk : Int) ≤ z j ∧ i = .int .i64 kk ∧ PShares w wr b g cap len0 z k c g' ∧ Due z len0 j kk k c) (fun i _ => (z j).toNat - (intOf i).toNat)
                case atStart => exact ⟨0, k2, c2, by omega, rfl, HP3.out, by have := HD3.out; rw [if_neg (by omega)] at this; exact this⟩
                case round =>
                  obtain ⟨kk, k3, c3, hkk, rfl, hP, hD⟩ := hrel
                  have hcj := (hP.bel.cell (p := ⟨b0, off0 + j, none⟩) hb0).trans (Hc0.out j hlt3)
                  have HP4 := Lib.hid hP
                  have HD4 := Lib.hid hD
                  clear hP hD
                  by_cases hlt4 : (kk : Int) < z j
                  · have N := Lib.hid (next_go b g cap len0 z k3 c3 g' 0 cap' _ _ HP4.out.p HP4.out.f HP4.out.z (fun i hi => by omega) ⟨0, n0, by omega⟩)
                    go_wp2_with fail
                    refine N.out.mono ?_
                    rintro e w6 ⟨j', c', hst, rfl, hp6, hk6⟩
                    obtain ⟨rfl, rfl⟩ := HD4.out.step n0 hlt4 hst
                    have HP5 := Lib.hid (show PShares w w6 b g cap len0 z j' _ g' from ⟨hp6, (hst.fit HP4.out.f).1, HP4.out.bel.trans (hk6.below w.heap.size HP4.out.bel.size (fun k' e => by omega)), HP4.out.z.kept hk6⟩)
                    clear hp6 hk6 hst N hcj
                    go_wp2
                    go_roundw
                    case rel => exact ⟨kk + 1, j', _, by omega, by go_num, HP5.out, .inl ⟨rfl, rfl⟩⟩
                    case measure => simp [intOf]; omega
                  · go_wp2
                    go_roundw
                    case rel => exact ⟨j + 1, k3, c3, by omega, by go_num, HP4.out, by
                      have := HD4.out.next hlt3 (by omega) (by omega)
                      exact this⟩
                    case measure => simp [intOf]; omega
              · obtain rfl : j = len0 := by omega
                go_wp2
                go_roundw
                case rel => exact ⟨t + 1, k2, c2, by omega, by go_num, HP3.out, by have := HD3.out; rw [if_pos rfl] at this; exact this⟩
                case measure => simp [intOf]; omega
          · generalize pickOf q 4 = v at q0 q1 hlt ⊢
            go_wp2
            go_ret
            exact ⟨rfl, HP2.out.bel⟩
end Go.Proofs.Ytkehhfgoikbciaa
