/- granarylaw3.RingPlays returns true, and writes nothing that was there. -/
import Derived.Test.YtkehhfgoikbciaaDoorRingRoomWalk
import Derived.Test.YtkehhfgoikbciaaDoorOwnSl
namespace Go.Proofs.YtkehhfgoikbciaaDoor
open Go.RowKit
set_option linter.unusedVariables false

def intsV (l : List Int) : List Value := l.map (Value.int .i64)
theorem intsV_length (l : List Int) : (intsV l).length = l.length := by simp [intsV]

set_option maxRecDepth 100000 in
set_option maxHeartbeats 8000000 in
theorem ringPlays_walk (w : World) (hg : Laid w) (n : Int) (hn0 : -9223372036854775808 ≤ n) (hn1 : n ≤ 9223372036854775807) (a : Option Addr) (len cap : Nat) (z : List Int) (hz : IsRow .i64 8 w a len cap z) :
    Calls Tryd.prog 6 #[.int .i64 n, .slice a len cap] w fun e w' => e = .returned (.bool true) ∧ Below w.heap.size w w' := by
  have hlen : len * 8 ≤ 140737488351232 := by
    rcases hz with ⟨_, h, _⟩ | ⟨_, _, h1, h2, _⟩ <;> omega
  have hz' := Lib.hid hz
  have HG := Lib.hid hg
  have hpos := hg.pos
  obtain ⟨i0, hi, hz0', hz1, hz2⟩ := info_parts (P := Tryd.prog) (e := 3) (z := .int .i64 0) (size := 1) (bytes := 8) (by kernel_rfl)
  have Hi := Lib.hid hi
  have Hz0 := Lib.hid hz0'
  have Hz1 := Lib.hid hz1
  have Hz2 := Lib.hid hz2
  clear hz hg hi hz0' hz1 hz2
  by_cases hbad : n < 2 ∨ 16 < n
  · have Hb := Lib.hid hbad
    clear hbad
    have E := Lib.hid (error_hit 1 1 w HG.out)
    unfold errV at E
    go_enter Tryd.func6, Tryd.ntmps6
    go_wp2_with fail
    refine (ring_new_bad _ _ Hb.out).mono ?_
    rintro e w' ⟨rfl, rfl⟩
    unfold rgErr
    by_cases c1 : n < 2
    · go_wp2_with fail
      refine E.out.mono ?_
      rintro e w' ⟨rfl, hB⟩
      have HBB := Lib.hid hB
      clear hB
      go_wp2
      go_ret
      exact ⟨rfl, HBB.out⟩
    · have c2 : 16 < n := by have := Hb.out; omega
      go_wp2_with fail
      refine E.out.mono ?_
      rintro e w' ⟨rfl, hB⟩
      have HBB := Lib.hid hB
      clear hB
      go_wp2
      go_ret
      exact ⟨rfl, HBB.out⟩
  · obtain ⟨n, rfl⟩ := Int.eq_ofNat_of_zero_le (show 0 ≤ n by omega)
    have h2 : 2 ≤ n := by omega
    have h16 : n ≤ 16 := by omega
    have hnz : ((n : Int) == 0) = false := by simp; omega
    clear hbad hn0 hn1
    go_enter Tryd.func6, Tryd.ntmps6
    go_wp2_with fail
    refine (ring_new_ok n _ h2 h16).mono ?_
    rintro e w1 ⟨rfl, hr, hb⟩
    have HR := Lib.hid (show RR w w1 (w.heap.size + 1) w.heap.size n 0 [] from ⟨hr, hb, by omega, by omega⟩)
    clear hr hb
    go_wp2_with fail
    go_loopw [7, 8, 9, 10] (fun v pu po i wr => ∃ (t p u : Nat) (l : List Int), t ≤ len ∧ i = .int .i64 t ∧ po = .int .i64 p ∧ pu = .int .i64 u ∧ u = p + l.length ∧ u ≤ t ∧ OwnSl wr (w.heap.size + 2) 3 v (intsV l) ∧ RR w wr (w.heap.size + 1) w.heap.size n (p % n) l) (fun _ _ _ i _ => len - (intOf i).toNat)
    case atStart => exact ⟨0, 0, 0, [], Nat.zero_le _, rfl, rfl, rfl, rfl, Nat.le_refl _, OwnSl.nil _ _ _, by simpa using HR.out⟩
    case round =>
      obtain ⟨t, p, u, l, ht, rfl, rfl, rfl, hup, hut, hO, hR⟩ := hrel
      have hform := hO.form
      rw [intsV_length] at hform
      obtain ⟨av, cv, rfl, hcells⟩ := hform
      have Hcells := Lib.hid hcells
      have HO := Lib.hid hO
      have HR2 := Lib.hid hR
      have hlf := hR.r.few
      clear hcells hO hR HR
      by_cases hlt : t < len
      · obtain ⟨b, off, rfl, hlc, _, hzl, hbW, hcell, hwf⟩ := hz'.out.at (by omega)
        have hc := hcell wr HR2.out.bel t (by omega)
        have hxb := bounds_i64 (hwf t (by omega))
        have hxb0 := hxb.1
        have hxb1 := hxb.2
        clear hcell hwf hxb
        generalize z.getD t 0 = x at hc hxb0 hxb1
        by_cases hx : 0 ≤ x
        · have dx : decide (0 ≤ x) = true := by simpa using hx
          by_cases hfull : l.length = n - 1
          · have HUP := Lib.hid hup
            go_wp2_with fail
            refine (ring_push_full _ _ n (p % n) l x _ HR2.out.r hfull).mono ?_
            rintro e w2 ⟨rfl, q, rfl⟩
            have HR := Lib.hid (HR2.out.draw q)
            have HO := Lib.hid (HO.out.keep (S := fun _ => False) ((Keep.refl _ _).drewN q) (fun k h => h.elim))
            clear HR2
            generalize World.drewN _ q = w2 at *
            have de : ((l.length : Int) == (n : Int) - 1) = true := by simp; omega
            clear hup hfull
            go_wp2_with fail
            refine (error_hit 3 3 _ (HG.out.below hpos HR.out.bel)).mono ?_
            rintro e w3 ⟨rfl, hb3⟩
            have HR := Lib.hid (HR.out.below hb3)
            have HO := Lib.hid (HO.out.below hb3)
            clear hb3 de
            obtain ⟨ln, hln⟩ : ∃ ln, ln = (l).length := ⟨_, rfl⟩
            have hnum : p + ln = u := by rw [hln]; exact HUP.out.symm
            have N1 := Lib.hid (ring_len _ _ n (p % n) (l) _ HR.out.r)
            have N2 := Lib.hid (fun q => ring_ends _ _ n (p % n) (l) _ (HR.out.draw q).r)
            rw [← hln] at N1
            have e2 : ((p % n + (l).length) % n : Nat) = u % n := by rw [← hln, Nat.mod_add_mod, hnum]
            rw [e2] at N2
            have HLN := Lib.hid hln
            clear e2 hln
            rw [← HLN.out]
            go_wp2_with fail
            refine N1.out.mono ?_
            rintro e w' ⟨rfl, q1, rfl⟩
            go_wp2_with fail
            refine (N2.out q1).mono ?_
            rintro e w' ⟨rfl, q2, rfl⟩
            have HR5 := Lib.hid (HR.out.draw (q1 + q2))
            have HO5 := Lib.hid (HO.out.keep (S := fun _ => False) ((Keep.refl _ _).drewN (q1 + q2)) (fun k h => h.elim))
            have hlt5 : u ≤ t + 1 := by omega
            have c1 : ((p % n : Nat) : Int) = (p : Int) % (n : Int) := by simp
            have c2 : ((u % n : Nat) : Int) = (u : Int) % (n : Int) := by simp
            rw [c1, c2]
            clear c1 c2 HR HO
            go_wp2
            go_roundw
            case rel => exact ⟨t + 1, p, u, (l), by omega, by go_num, by go_num, by go_num, hnum.symm ▸ (by rw [HLN.out]), hlt5, (by first | exact HO5.out | (rw [HLN.out]; exact HO5.out)), HR5.out⟩
            case measure => simp [intOf]; omega
          · have HUP := Lib.hid hup
            have hlf2 : l.length < n - 1 := by omega
            go_wp2_with fail
            refine (ring_push_ok _ _ n (p % n) l x _ HR2.out.r hlf2).mono ?_
            rintro e w2 ⟨rfl, hr, hk⟩
            have HR3 := Lib.hid (HR2.out.next hk (fun k h => h) hr)
            have HO3 := Lib.hid (HO.out.keep hk (fun k h => by omega))
            have hs3 := HR3.out.r.head.lt
            clear hr hk HR2 HO
            have de : ((l.length : Int) == (n : Int) - 1) = false := by simp; omega
            have hll : l.length ≤ len := by omega
            clear hup hfull
            go_wp2_with (at_builtin; refine wpList_append_sl _ rfl _ _ 30 rfl (w.heap.size + 2) 3 i0 (.int .i64 0) 8 Tryd.underlying30 Hi.out Hz0.out Hz1.out Hz2.out rfl _ (intsV l) rfl (HO3.out.below ((Below.refl _ _).alloc (Nat.le_refl _) _)) ⟨w2.heap.size, 0, none⟩ 1 (.int .i64 x) rfl ?c1 rfl ?c3 ?c4 ?c5 ?_)
            case c1 => simp
            case c3 => rw [intsV_length]; unfold maxLen; omega
            case c4 => rw [intsV_length]; omega
            case c5 => simp; omega
            intro v' w3 hown' hbel
            have hBA : Below w2.heap.size w2 (w2.alloc (.cells #[.int .i64 x] 3)) := (Below.refl _ _).alloc (Nat.le_refl _) _
            have hkp : Keep (fun k => w.heap.size + 2 ≤ k) w2 w3 := (Keep.ofBelow hBA (fun k h1 h2 => by omega)).trans (Keep.ofBelow hbel (fun k h1 h2 => h2))
            have HR := Lib.hid (show RR w w3 (w.heap.size + 1) w.heap.size n (p % n) (l ++ [x]) from
              ⟨HR3.out.r.keep hkp (by omega) (by omega), HR3.out.bel.trans ((hBA.mono HR3.out.bel.size).trans (hbel.mono (by omega))), by omega, by omega⟩)
            have HO := Lib.hid (show OwnSl w3 (w.heap.size + 2) 3 v' (intsV (l ++ [x])) by simpa [intsV] using hown')
            clear hown' hbel hBA hkp HR3 HO3 de
            go_wp2_with fail
            refine (error_nil 0 _).mono ?_
            rintro e w' ⟨rfl, rfl⟩
            have hform2 := HO.out.form
            rw [intsV_length] at hform2
            obtain ⟨av2, cv2, rfl, _⟩ := hform2
            obtain ⟨ln, hln⟩ : ∃ ln, ln = (l ++ [x]).length := ⟨_, rfl⟩
            have hnum : p + ln = (u + 1) := by rw [hln]; have := HUP.out; simp; omega
            have N1 := Lib.hid (ring_len _ _ n (p % n) (l ++ [x]) _ HR.out.r)
            have N2 := Lib.hid (fun q => ring_ends _ _ n (p % n) (l ++ [x]) _ (HR.out.draw q).r)
            rw [← hln] at N1
            have e2 : ((p % n + (l ++ [x]).length) % n : Nat) = (u + 1) % n := by rw [← hln, Nat.mod_add_mod, hnum]
            rw [e2] at N2
            have HLN := Lib.hid hln
            clear e2 hln
            rw [← HLN.out]
            go_wp2_with fail
            refine N1.out.mono ?_
            rintro e w' ⟨rfl, q1, rfl⟩
            go_wp2_with fail
            refine (N2.out q1).mono ?_
            rintro e w' ⟨rfl, q2, rfl⟩
            have HR5 := Lib.hid (HR.out.draw (q1 + q2))
            have HO5 := Lib.hid (HO.out.keep (S := fun _ => False) ((Keep.refl _ _).drewN (q1 + q2)) (fun k h => h.elim))
            have hlt5 : (u + 1) ≤ t + 1 := by omega
            have c1 : ((p % n : Nat) : Int) = (p : Int) % (n : Int) := by simp
            have c2 : (((u + 1) % n : Nat) : Int) = ((u : Int) + 1) % (n : Int) := by simp
            rw [c1, c2]
            clear c1 c2 HR HO
            go_wp2
            go_roundw
            case rel => exact ⟨t + 1, p, (u + 1), (l ++ [x]), by omega, by go_num, by go_num, by go_num, hnum.symm ▸ (by rw [HLN.out]), hlt5, (by first | exact HO5.out | (rw [HLN.out]; exact HO5.out)), HR5.out⟩
            case measure => simp [intOf]; omega
        · have dx : decide (0 ≤ x) = false := by simpa using hx
          cases l with
          | nil =>
            have HUP := Lib.hid hup
            clear hup
            go_wp2_with fail
            refine (ring_pop_none _ _ n (p % n) _ HR2.out.r).mono ?_
            rintro e w2 ⟨rfl, q, rfl⟩
            have HR := Lib.hid (HR2.out.draw q)
            have HO := Lib.hid (HO.out.keep (S := fun _ => False) ((Keep.refl _ _).drewN q) (fun k h => h.elim))
            clear HR2
            generalize World.drewN _ q = w2 at *
            go_wp2_with fail
            refine (error_hit 4 4 _ (HG.out.below hpos HR.out.bel)).mono ?_
            rintro e w3 ⟨rfl, hb3⟩
            have HR := Lib.hid (HR.out.below hb3)
            have HO := Lib.hid (HO.out.below hb3)
            clear hb3
            obtain ⟨ln, hln⟩ : ∃ ln, ln = (([] : List Int)).length := ⟨_, rfl⟩
            have hnum : p + ln = u := by rw [hln]; exact HUP.out.symm
            have N1 := Lib.hid (ring_len _ _ n (p % n) (([] : List Int)) _ HR.out.r)
            have N2 := Lib.hid (fun q => ring_ends _ _ n (p % n) (([] : List Int)) _ (HR.out.draw q).r)
            rw [← hln] at N1
            have e2 : ((p % n + (([] : List Int)).length) % n : Nat) = u % n := by rw [← hln, Nat.mod_add_mod, hnum]
            rw [e2] at N2
            have HLN := Lib.hid hln
            clear e2 hln
            go_wp2_with fail
            refine N1.out.mono ?_
            rintro e w' ⟨rfl, q1, rfl⟩
            go_wp2_with fail
            refine (N2.out q1).mono ?_
            rintro e w' ⟨rfl, q2, rfl⟩
            have HR5 := Lib.hid (HR.out.draw (q1 + q2))
            have HO5 := Lib.hid (HO.out.keep (S := fun _ => False) ((Keep.refl _ _).drewN (q1 + q2)) (fun k h => h.elim))
            have hlt5 : u ≤ t + 1 := by omega
            have c1 : ((p % n : Nat) : Int) = (p : Int) % (n : Int) := by simp
            have c2 : ((u % n : Nat) : Int) = (u : Int) % (n : Int) := by simp
            rw [c1, c2]
            clear c1 c2 HR HO
            go_wp2
            go_roundw
            case rel => exact ⟨t + 1, p, u, (([] : List Int)), by omega, by go_num, by go_num, by go_num, hnum.symm ▸ (by rw [HLN.out]), hlt5, (by first | exact HO5.out | (rw [HLN.out]; exact HO5.out)), HR5.out⟩
            case measure => simp [intOf]; omega
          | cons y l =>
            have HUP := Lib.hid hup
            clear hup hlf
            simp only [List.length_cons] at HO ⊢
            go_wp2_with fail
            refine (ring_pop_ok _ _ n (p % n) y l _ HR2.out.r).mono ?_
            rintro e w2 ⟨rfl, hr, hk⟩
            rw [Nat.mod_add_mod] at hr
            have HR := Lib.hid (HR2.out.next hk (fun k h => .inl h) hr)
            have HO3 := HO.out.keep hk (fun k h => by omega)
            have ht3 : OwnSl w2 (w.heap.size + 2) 3 (.slice av ((intsV l).length + 1) cv) (Value.int .i64 y :: intsV l) := by rw [intsV_length]; exact HO3
            obtain ⟨g, off2, rfl, hcap, hcy, hown⟩ := ht3.tail
            rw [intsV_length] at hcap hown
            have d0 : (((l.length : Int) + 1) == 0) = false := by simp; omega
            have HO0 := Lib.hid hown
            clear hr hk HR2 HO HO3 ht3 hown Hcells
            by_cases hc1 : cv = 1
            · subst hc1
              obtain rfl : l = [] := List.eq_nil_of_length_eq_zero (by omega)
              have HO := Lib.hid (show OwnSl w2 (w.heap.size + 2) 3 (.slice (some ⟨g, off2, none⟩) 0 0) (intsV []) from HO0.out)
              clear HO0
              (try simp only [List.length_nil])
              obtain ⟨ln, hln⟩ : ∃ ln, ln = (([] : List Int)).length := ⟨_, rfl⟩
              have hnum : (p + 1) + ln = u := by rw [hln]; have := HUP.out; simp at this ⊢; omega
              have N1 := Lib.hid (ring_len _ _ n ((p + 1) % n) (([] : List Int)) _ HR.out.r)
              have N2 := Lib.hid (fun q => ring_ends _ _ n ((p + 1) % n) (([] : List Int)) _ (HR.out.draw q).r)
              rw [← hln] at N1
              have e2 : (((p + 1) % n + (([] : List Int)).length) % n : Nat) = u % n := by rw [← hln, Nat.mod_add_mod, hnum]
              rw [e2] at N2
              have HLN := Lib.hid hln
              clear e2 hln
              go_wp2_with fail
              refine N1.out.mono ?_
              rintro e w' ⟨rfl, q1, rfl⟩
              go_wp2_with fail
              refine (N2.out q1).mono ?_
              rintro e w' ⟨rfl, q2, rfl⟩
              have HR5 := Lib.hid (HR.out.draw (q1 + q2))
              have HO5 := Lib.hid (HO.out.keep (S := fun _ => False) ((Keep.refl _ _).drewN (q1 + q2)) (fun k h => h.elim))
              have hlt5 : u ≤ t + 1 := by omega
              have c1 : (((p + 1) % n : Nat) : Int) = ((p : Int) + 1) % (n : Int) := by simp
              have c2 : ((u % n : Nat) : Int) = (u : Int) % (n : Int) := by simp
              rw [c1, c2]
              clear c1 c2 HR HO
              go_wp2
              go_roundw
              case rel => exact ⟨t + 1, (p + 1), u, (([] : List Int)), by omega, by go_num, by go_num, by go_num, hnum.symm ▸ (by rw [HLN.out]), hlt5, (by first | exact HO5.out | (rw [HLN.out]; exact HO5.out)), HR5.out⟩
              case measure => simp [intOf]; omega
            · have HO := Lib.hid (show OwnSl w2 (w.heap.size + 2) 3 (.slice (some ⟨g, off2 + 1, none⟩) l.length (cv - 1)) (intsV l) by have := HO0.out; rw [if_neg hc1] at this; exact this)
              clear HO0
              have hc1' : ¬ cv = 1 := hc1
              obtain ⟨ln, hln⟩ : ∃ ln, ln = (l).length := ⟨_, rfl⟩
              have hnum : (p + 1) + ln = u := by rw [hln]; have := HUP.out; simp at this ⊢; omega
              have N1 := Lib.hid (ring_len _ _ n ((p + 1) % n) (l) _ HR.out.r)
              have N2 := Lib.hid (fun q => ring_ends _ _ n ((p + 1) % n) (l) _ (HR.out.draw q).r)
              rw [← hln] at N1
              have e2 : (((p + 1) % n + (l).length) % n : Nat) = u % n := by rw [← hln, Nat.mod_add_mod, hnum]
              rw [e2] at N2
              have HLN := Lib.hid hln
              clear e2 hln
              rw [← HLN.out]
              go_wp2_with fail
              refine N1.out.mono ?_
              rintro e w' ⟨rfl, q1, rfl⟩
              go_wp2_with fail
              refine (N2.out q1).mono ?_
              rintro e w' ⟨rfl, q2, rfl⟩
              have HR5 := Lib.hid (HR.out.draw (q1 + q2))
              have HO5 := Lib.hid (HO.out.keep (S := fun _ => False) ((Keep.refl _ _).drewN (q1 + q2)) (fun k h => h.elim))
              have hlt5 : u ≤ t + 1 := by omega
              have c1 : (((p + 1) % n : Nat) : Int) = ((p : Int) + 1) % (n : Int) := by simp
              have c2 : ((u % n : Nat) : Int) = (u : Int) % (n : Int) := by simp
              rw [c1, c2]
              clear c1 c2 HR HO
              go_wp2
              go_roundw
              case rel => exact ⟨t + 1, (p + 1), u, (l), by omega, by go_num, by go_num, by go_num, hnum.symm ▸ (by rw [HLN.out]), hlt5, (by first | exact HO5.out | (rw [HLN.out]; exact HO5.out)), HR5.out⟩
              case measure => simp [intOf]; omega
      · go_wp2
        go_ret
        exact ⟨rfl, HR2.out.bel⟩
end Go.Proofs.YtkehhfgoikbciaaDoor
