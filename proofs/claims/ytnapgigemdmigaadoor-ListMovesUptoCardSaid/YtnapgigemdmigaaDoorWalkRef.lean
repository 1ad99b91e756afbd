/- granaryref2.pageAt, ReadNumber of any slice, WalkOf. -/
import Derived.Test.YtnapgigemdmigaaDoorMemRef
import Derived.Test.YtnapgigemdmigaaDoorWalkFn
import Derived.Test.YtnapgigemdmigaaDoorOwn
import Derived.Test.YtnapgigemdmigaaDoorBytes
import Derived.Test.YtnapgigemdmigaaDoorSegRow
import Derived.Laws.OwnMore
namespace Go.Proofs.YtnapgigemdmigaaDoor
open Go.RowKit
set_option linter.unusedVariables false

theorem ref_pageAt (x : Int) (w : World) (x0 : -9223372036854775808 ≤ x) (x1 : x ≤ 9223372036854775807) :
    Calls Tryd.prog 42 #[.int .i64 x] w fun e w' => e = .returned (.bool (pageOk x)) ∧ w = w' := by
  by_cases h : 0 ≤ x
  · go_enter Tryd.func42, Tryd.ntmps42
    go_wp2
    go_ret
    exact ⟨ret_bool (by unfold pageOk; rw [Bool.eq_iff_iff]; simp [h]), rfl⟩
  · go_enter Tryd.func42, Tryd.ntmps42
    go_wp2
    go_ret
    exact ⟨ret_bool (by unfold pageOk; rw [Bool.eq_iff_iff]; simp; omega), rfl⟩

set_option maxHeartbeats 1000000 in
theorem ref_readNumber_any (a : Option Addr) (cap : Nat) (bs : List Int) (x : Int) (w : World) (hs : bs.length ≤ 16384) (hcap : bs.length ≤ cap) (x0 : -9223372036854775808 ≤ x) (x1 : x ≤ 9223372036854775807) (hb : ∀ x ∈ bs, 0 ≤ x ∧ x ≤ 255) (hr : RdB w a bs) :
    Calls Tryd.prog 34 #[.slice a bs.length cap, .int .i64 x] w fun e w' => e = .returned (.tuple (match numRd bs x with | none => #[.int .i64 0, .int .i64 1] | some v => #[.int .i64 v, .int .i64 0])) ∧ w = w' := by
  cases hf : memFits bs.length x 8 with
  | false =>
    refine (ref_readNumber_bad a bs.length cap x w hs x0 x1 hf).mono ?_
    rintro e w' ⟨rfl, rfl⟩
    unfold numRd
    rw [hf]
    exact ⟨rfl, rfl⟩
  | true =>
    have hf' := (memFits_iff _ _ _).1 hf
    obtain ⟨p, rfl⟩ := Int.eq_ofNat_of_zero_le hf'.1
    have hp : p + 8 ≤ bs.length := by omega
    obtain ⟨bb, off, rfl, hc⟩ := hr.resolve_left (by omega)
    have HF := Lib.hid (ref_fits bs.length p 8 w hs (by omega) (by omega) (by omega) (by omega))
    rw [hf] at HF
    have HN := Lib.hid (num_sub bb off p (cap - p) bs w hp hb hc)
    have hr : numRd bs p = if numOk ((bs.drop p).take 8) then some (leNum ((bs.drop p).take 8)) else none := by
      unfold numRd
      rw [hf]
      simp only [Bool.true_and, Int.toNat_natCast]
    rw [hr]
    clear hb hc hf hf' hr
    generalize numOk ((bs.drop p).take 8) = ok at *
    generalize leNum ((bs.drop p).take 8) = v at *
    generalize bs.length = n at *
    have hw : IntKind.i64.wrap ((p : Int) + 8) = (p : Int) + 8 := IntWalk.i64_in _ (by omega)
    cases ok with
    | true =>
      simp only [if_true] at HN ⊢
      go_enter Tryd.func34, Tryd.ntmps34
      go_wp2_with fail
      refine HF.out.mono ?_
      rintro e w' ⟨rfl, rfl⟩
      go_wp2_with fail
      refine HN.out.mono ?_
      rintro e w' ⟨rfl, rfl⟩
      go_wp2
      go_ret2
      exact ⟨rfl, rfl⟩
    | false =>
      simp only [Bool.false_eq_true, if_false] at HN ⊢
      go_enter Tryd.func34, Tryd.ntmps34
      go_wp2_with fail
      refine HF.out.mono ?_
      rintro e w' ⟨rfl, rfl⟩
      go_wp2_with fail
      refine HN.out.mono ?_
      rintro e w' ⟨rfl, rfl⟩
      go_wp2
      go_ret2
      exact ⟨rfl, rfl⟩

def RefEnd (R : Int × List (Int × Int)) (w : World) (e : Ending) (w' : World) : Prop :=
  Below w.heap.size w w' ∧ (R.1 ≠ 0 → e = .returned (.tuple #[.slice none 0 0, .int .i64 R.1])) ∧
  (R.1 = 0 → ∃ v, e = .returned (.tuple #[v, .int .i64 0]) ∧ w'.ownsRow w.heap.size 43 2 v R.2.length (segCells R.2))
theorem RefEnd.bad {w w' : World} (k : Int) (hk : k ≠ 0) (hb : Below w.heap.size w w') : RefEnd (k, []) w (.returned (.tuple #[.slice none 0 0, .int .i64 k])) w' :=
  ⟨hb, fun _ => rfl, fun h => absurd h hk⟩

set_option maxRecDepth 100000 in
set_option maxHeartbeats 8000000 in
theorem walkOf_early (a : Option Addr) (n c : Nat) (bs : List Int) (first second long : Int) (w : World) (f0 : -9223372036854775808 ≤ first) (f1 : first ≤ 9223372036854775807) (l0 : -9223372036854775808 ≤ long) (l1 : long ≤ 9223372036854775807)
    (h : long < 1 ∨ 2048 < long ∨ first % 4 ≠ 0 ∨ first < 0) :
    Calls Tryd.prog 29 #[.slice a n c, .int .i64 first, .int .i64 second, .int .i64 long] w (RefEnd (walkRes bs first second long) w) := by
  have ht : Int.tmod first 4 = 0 ↔ first % 4 = 0 := by
    rw [← Int.dvd_iff_tmod_eq_zero, ← Int.dvd_iff_emod_eq_zero]
  unfold walkRes
  by_cases c1 : long < 1
  · rw [if_pos (.inl c1)]
    go_enter Tryd.func29, Tryd.ntmps29
    go_wp2
    go_ret2
    exact RefEnd.bad 1 (by omega) (Below.refl _ _)
  by_cases c2 : 2048 < long
  · rw [if_pos (.inr c2)]
    go_enter Tryd.func29, Tryd.ntmps29
    go_wp2
    go_ret2
    exact RefEnd.bad 1 (by omega) (Below.refl _ _)
  rw [if_neg (by omega)]
  by_cases c3 : first % 4 = 0
  · have c4 : first < 0 := by omega
    rw [if_neg (by omega), if_pos c4]
    have hb : (Int.tmod first 4 == 0) = true := by simp; exact ht.2 c3
    have hb2 : (Int.tmod first 4 != 0) = false := by simp; exact ht.2 c3
    clear ht c3 h
    go_enter Tryd.func29, Tryd.ntmps29
    go_wp2
    go_ret2
    exact RefEnd.bad 1 (by omega) (Below.refl _ _)
  · rw [if_pos c3]
    by_cases c5 : 0 ≤ first
    · have hb : (first % 4 == 0) = false := by simp; exact c3
      have hb2 : (first % 4 != 0) = true := by simp; exact c3
      clear ht c3 h
      go_enter Tryd.func29, Tryd.ntmps29
      go_wp2
      go_ret2
      exact RefEnd.bad 2 (by omega) (Below.refl _ _)
    · have hb : (Int.tmod first 4 == 0) = false := by simp; exact fun q => c3 (ht.1 q)
      have hb2 : (Int.tmod first 4 != 0) = true := by simp; exact fun q => c3 (ht.1 q)
      clear ht c3 h
      go_enter Tryd.func29, Tryd.ntmps29
      go_wp2
      go_ret2
      exact RefEnd.bad 2 (by omega) (Below.refl _ _)

structure RefInv (bs : List Int) (R : Int × List (Int × Int)) (w0 : World) (p left : Int) (segs : List (Int × Int)) (f : Nat) (v : Value) (wr : World) : Prop where
  p0 : 0 ≤ p
  p1 : p ≤ 9223372036854775807
  p8 : p % 8 = 0
  l0 : 0 ≤ left
  l1 : left ≤ 2048
  sl : (segs.length : Int) + left ≤ 2060
  own : wr.ownsRow w0.heap.size 43 2 v segs.length (segCells segs)
  bel : Below w0.heap.size w0 wr
  run : listRun bs f p left segs = R
  most : listMost p left ≤ f

set_option maxRecDepth 100000 in
set_option maxHeartbeats 16000000 in
theorem walkOf_late (a : Option Addr) (c : Nat) (bs : List Int) (first second long : Int) (w : World) (hr : RdB w a bs) (hb : ∀ x ∈ bs, 0 ≤ x ∧ x ≤ 255) (hs : bs.length ≤ 16384) (hc : bs.length ≤ c) (f1 : first ≤ 9223372036854775807) (s0 : -9223372036854775808 ≤ second) (s1 : second ≤ 9223372036854775807)
    (h1 : 1 ≤ long) (h2 : long ≤ 2048) (h3 : first % 4 = 0) (h4 : 0 ≤ first) :
    Calls Tryd.prog 29 #[.slice a bs.length c, .int .i64 first, .int .i64 second, .int .i64 long] w (RefEnd (walkRes bs first second long) w) := by
  obtain ⟨i0, hi, hz0', hz1, hz2⟩ := info_parts (P := Tryd.prog) (e := 43) (z := .agg #[.int .i64 0, .int .i64 0]) (size := 2) (bytes := 16) (by kernel_rfl)
  have Hi := Lib.hid hi
  have Hz0 := Lib.hid hz0'
  have Hz1 := Lib.hid hz1
  have Hz2 := Lib.hid hz2
  clear hi hz0' hz1 hz2
  have HRd := Lib.hid hr
  have HBy := Lib.hid hb
  have hbq : (first % 4 == 0) = true := by simp; exact h3
  have hbq2 : (first % 4 != 0) = false := by simp; exact h3
  obtain ⟨R, hR⟩ : ∃ R, walkRes bs first second long = R := ⟨_, rfl⟩
  rw [hR]
  unfold walkRes at hR
  rw [if_neg (by omega), if_neg (by omega), if_neg (by omega)] at hR
  have HR0 := Lib.hid hR
  clear hR hr hb
  have hroom0 : 0 ≤ 64 - first % 64 := by omega
  have hroom1 : 64 - first % 64 ≤ 64 := by omega
  clear h3
  have HF2 := Lib.hid (fun (x n : Int) w' (x0 : -9223372036854775808 ≤ x) (x1 : x ≤ 9223372036854775807) (n0 : 0 ≤ n) (n1 : n ≤ 2048) => ref_fits bs.length x n w' hs x0 x1 (by omega) (by omega))
  have HP2 := Lib.hid (fun w' => ref_pageAt second w' s0 s1)
  by_cases hlt : long < 64 - first % 64
  · rw [show min (64 - first % 64) long = long by omega] at HR0
    have hR := HR0.out
    rw [Int.sub_self] at hR
    cases hf : memFits bs.length first long with
    | false =>
      rw [hf, if_pos rfl] at hR
      have HR := Lib.hid hR
      have HF := Lib.hid (HF2.out first long w (by omega) f1 (by omega) (by omega))
      rw [hf] at HF
      clear hR HR0 hf
      go_enter Tryd.func29, Tryd.ntmps29
      go_wp2_with fail
      refine HF.out.mono ?_
      rintro e w' ⟨rfl, rfl⟩
      clear HF
      go_wp2
      go_ret2
      rw [← HR.out]; exact RefEnd.bad 1 (by omega) (Below.refl _ _)
    | true =>
      rw [hf, if_neg (by simp), if_pos (by omega)] at hR
      have HR := Lib.hid hR
      have HF := Lib.hid (HF2.out first long w (by omega) f1 (by omega) (by omega))
      rw [hf] at HF
      have HO := Lib.hid (World.ownsRow_lit (base := w.heap.size) (size := 2) (e := 43) w #[.int .i64 first, .int .i64 long] 1 (Nat.le_refl _) (by decide) rfl)
      clear hR HR0 hf
      go_enter Tryd.func29, Tryd.ntmps29
      go_wp2_with fail
      refine HF.out.mono ?_
      rintro e w' ⟨rfl, rfl⟩
      clear HF
      go_wp2
      go_ret2
      rw [← HR.out]; exact ⟨(Below.refl _ _).alloc (Nat.le_refl _) _, fun h => absurd rfl h, fun _ => ⟨_, rfl, HO.out⟩⟩
  · obtain ⟨n, hn⟩ : ∃ n, n = 64 - first % 64 := ⟨_, rfl⟩
    rw [← hn] at HR0 hroom0 hroom1 hlt
    rw [show min n long = n by omega] at HR0
    have HN := Lib.hid hn
    have hR := HR0.out
    have HF := Lib.hid (HF2.out first n w (by omega) f1 (by omega) (by omega))
    have HO := Lib.hid (World.ownsRow_lit (base := w.heap.size) (size := 2) (e := 43) w #[.int .i64 first, .int .i64 n] 1 (Nat.le_refl _) (by decide) rfl)
    have HBa := Lib.hid ((Below.refl w.heap.size w).alloc (Nat.le_refl _) (.cells #[.int .i64 first, .int .i64 n] 43))
    have hsub : 64 - first % 64 = n := hn.symm
    clear hn
    cases hf : memFits bs.length first n with
    | false =>
      rw [hf, if_pos rfl] at hR
      rw [hf] at HF
      have HR := Lib.hid hR
      clear hR HR0 hf
      go_enter Tryd.func29, Tryd.ntmps29
      go_wp2_with fail
      refine HF.out.mono ?_
      rintro e w' ⟨rfl, rfl⟩
      clear HF
      go_wp2
      go_ret2
      rw [← HR.out]; exact RefEnd.bad 1 (by omega) (Below.refl _ _)
    | true =>
      rw [hf, if_neg (by simp)] at hR
      rw [hf] at HF
      have HR1 := Lib.hid hR
      clear hR HR0 hf
      go_enter Tryd.func29, Tryd.ntmps29
      go_wp2_with fail
      refine HF.out.mono ?_
      rintro e w' ⟨rfl, rfl⟩
      clear HF
      by_cases hz : long - n ≤ 0
      · have hR := HR1.out
        rw [if_pos hz] at hR
        have HR := Lib.hid hR
        have hz0 : (long - n == 0) = true := by simp; omega
        clear hR HR1 hsub hbq hbq2
        go_wp2
        go_ret2
        rw [← HR.out]; exact ⟨HBa.out, fun h => absurd rfl h, fun _ => ⟨_, rfl, HO.out⟩⟩
      · have hR := HR1.out
        rw [if_neg hz] at hR
        have HR2 := Lib.hid hR
        have hz0 : (long - n == 0) = false := by simp; omega
        have HBs := Lib.hid (show ∀ w', Below w.heap.size w w' → RdB w' a bs from fun w' hw' => by
          rcases HRd.out with h0 | ⟨bb, off, e1, e2⟩
          · exact .inl h0
          · refine .inr ⟨bb, off, e1, fun i hi => ?_⟩
            have := e2 i hi
            rw [hw'.cell (p := ⟨bb, off + i, none⟩) (cell_lt (a := ⟨bb, off + i, none⟩) this)]; exact this)
        clear hR HR1 hsub hbq hbq2
        by_cases h64 : long - n ≤ 64
        · have hR := HR2.out
          rw [if_pos h64] at hR
          have HR3 := Lib.hid hR
          clear hR HR2
          cases hp : pageOk second with
          | false =>
            have hR := HR3.out
            rw [hp, if_pos rfl] at hR
            have HR := Lib.hid hR
            have HP := Lib.hid (HP2.out (w.alloc (.cells #[.int .i64 first, .int .i64 n] 43)))
            rw [hp] at HP
            clear hR HR3 hp
            go_wp2_with fail
            refine HP.out.mono ?_
            rintro e w' ⟨rfl, rfl⟩
            clear HP
            go_wp2
            go_ret2
            rw [← HR.out]; exact RefEnd.bad 2 (by omega) HBa.out
          | true =>
            have hR := HR3.out
            rw [hp, if_neg (by simp)] at hR
            have HR4 := Lib.hid hR
            have HP := Lib.hid (HP2.out (w.alloc (.cells #[.int .i64 first, .int .i64 n] 43)))
            rw [hp] at HP
            have HF := Lib.hid (HF2.out second (long - n) (w.alloc (.cells #[.int .i64 first, .int .i64 n] 43)) s0 s1 (by omega) (by omega))
            clear hR HR3 hp
            cases hf : memFits bs.length second (long - n) with
            | false =>
              have hR := HR4.out
              rw [hf, if_neg (by simp)] at hR
              have HR := Lib.hid hR
              rw [hf] at HF
              clear hR HR4 hf
              go_wp2_with fail
              refine HP.out.mono ?_
              rintro e w' ⟨rfl, rfl⟩
              go_wp2_with fail
              refine HF.out.mono ?_
              rintro e w' ⟨rfl, rfl⟩
              clear HP HF
              go_wp2
              go_ret2
              rw [← HR.out]; exact RefEnd.bad 1 (by omega) HBa.out
            | true =>
              have hR := HR4.out
              rw [hf, if_pos rfl] at hR
              have HR := Lib.hid hR
              rw [hf] at HF
              clear hR HR4 hf
              go_wp2_with fail
              generalize hw1 : w.alloc (.cells #[.int .i64 first, .int .i64 n] 43) = w1 at *
              have hs1 := HBa.out.size
              have HO1 := Lib.hid (HO.out.alloc (.cells #[.int .i64 second, .int .i64 (long - n)] 43))
              clear hw1
              refine HP.out.mono ?_
              rintro e w' ⟨rfl, rfl⟩
              go_wp2_with fail
              refine HF.out.mono ?_
              rintro e w' ⟨rfl, rfl⟩
              clear HP HF
              go_wp2_with (at_builtin; refine wpList_append_own _ rfl _ _ 39 rfl w.heap.size 43 i0 (.agg #[.int .i64 0, .int .i64 0]) 2 16 Tryd.underlying39 Hi.out Hz0.out Hz1.out Hz2.out rfl (by decide) _ _ _ rfl HO1.out ⟨w1.heap.size, 0, none⟩ 1 1 [.int .i64 second, .int .i64 (long - n)] rfl rfl ?c1 ?c2 ?c3 ?c4 ?c5 ?_)
              case c1 => exact two_news _ _ _ _ _ rfl
              case c2 => intro u hu; simp at hu; rcases hu with rfl | rfl <;> rfl
              case c3 => unfold maxLen; omega
              case c4 => omega
              case c5 => simp; omega
              intro v' w6 hown' hgrow _
              have HO6 := Lib.hid hown'
              have HB6 := Lib.hid (((HBa.out.alloc hs1 (.cells #[.int .i64 second, .int .i64 (long - n)] 43))).grown hgrow (by simp; omega) (fun k hk => by simp [Value.ownBlock] at hk; omega))
              clear hown' hgrow
              go_wp2
              go_ret2
              rw [← HR.out]; exact ⟨HB6.out, fun h => absurd rfl h, fun _ => ⟨_, rfl, HO6.out⟩⟩
        · have hR := HR2.out
          rw [if_neg h64] at hR
          by_cases hal : second < 0 ∨ second % 8 ≠ 0
          · rw [if_pos hal] at hR
            have HR := Lib.hid hR
            clear hR HR2
            by_cases hneg : second < 0
            · clear hal
              go_wp2
              go_ret2
              rw [← HR.out]; exact RefEnd.bad 2 (by omega) HBa.out
            · have h8 : (second % 8 != 0) = true := by simp; omega
              clear hal
              go_wp2
              go_ret2
              rw [← HR.out]; exact RefEnd.bad 2 (by omega) HBa.out
          · rw [if_neg hal] at hR
            have HR := Lib.hid hR
            have hneg : 0 ≤ second := by omega
            have hp8 : second % 8 = 0 := by omega
            have h8 : (second % 8 != 0) = false := by simp; exact hp8
            have HI : Hid (RefInv bs R w second (long - n) [(first, n)] (listMost second (long - n)) (.slice (some ⟨w.heap.size, 0, none⟩) 1 1) (w.alloc (.cells #[.int .i64 first, .int .i64 n] 43))) :=
              ⟨hneg, s1, hp8, by omega, by omega, by simp; omega, HO.out, HBa.out, HR.out, Nat.le_refl _⟩
            have HP8 := Lib.hid hp8
            clear hR HR2 HR hal hp8 HO HBa
            go_wp2_with fail
            go_loopw [12, 13, 14] (fun v l q wr => ∃ (p left : Int) (segs : List (Int × Int)) (f : Nat), q = .int .i64 p ∧ l = .int .i64 left ∧ RefInv bs R w p left segs f v wr) (fun _ l q _ => listMost (intOf q) (intOf l))
            case atStart => exact ⟨_, _, _, _, rfl, rfl, HI.out⟩
            case round =>
              clear HI
              obtain ⟨p, left, segs, f, rfl, rfl, hi⟩ := hrel
              have hl0 := hi.l0
              have hl1 := hi.l1
              have hp0 := hi.p0
              have hp1 := hi.p1
              have hp8 := hi.p8
              have HIv := Lib.hid hi
              clear hi
              by_cases hzl : left ≤ 0
              · obtain rfl : left = 0 := by omega
                have HR := Lib.hid (show (0, segs) = R by rw [← HIv.out.run]; cases f <;> simp [listRun])
                go_wp2
                go_ret2
                refine ⟨HIv.out.bel, fun h => by rw [← HR.out] at h; exact absurd rfl h, fun _ => by rw [← HR.out]; exact ⟨_, rfl, HIv.out.own⟩⟩
              · have hzl' : 0 < left := by omega
                obtain ⟨f, rfl⟩ : ∃ g, f = g + 1 := ⟨f - 1, by
                  have := HIv.out.most
                  unfold listMost at this
                  omega⟩
                have HN := Lib.hid (ref_readNumber_any a c bs p wr hs hc (by omega) hp1 HBy.out (HBs.out wr HIv.out.bel))
                have hqa : 0 ≤ (left + 63) / 64 := by omega
                have hqb : 0 ≤ (64 - p % 64) / 8 := by omega
                cases hx : numRd bs p with
                | none =>
                  rw [hx] at HN
                  have HR := HIv.out.run
                  rw [listRun, if_neg (by omega), hx] at HR
                  have HR' := Lib.hid HR
                  clear HR hx
                  go_wp2_with fail
                  refine HN.out.mono ?_
                  rintro e w' ⟨rfl, rfl⟩
                  clear HN
                  go_wp2
                  go_ret2
                  rw [← HR'.out]; exact RefEnd.bad 1 (by omega) HIv.out.bel
                | some x =>
                  rw [hx] at HN
                  obtain ⟨_, hp16, hx0, hx1⟩ := numRd_bd hs hx HBy.out
                  have HR := HIv.out.run
                  rw [listRun, if_neg (by omega), hx] at HR
                  simp only [] at HR
                  have HPg := Lib.hid (ref_pageAt x wr (by omega) (by omega))
                  clear hx
                  cases hpg : pageOk x with
                  | false =>
                    rw [hpg] at HPg
                    rw [hpg, if_pos rfl] at HR
                    have HR' := Lib.hid HR
                    clear HR hpg
                    go_wp2_with fail
                    refine HN.out.mono ?_
                    rintro e w' ⟨rfl, rfl⟩
                    go_wp2_with fail
                    refine HPg.out.mono ?_
                    rintro e w' ⟨rfl, rfl⟩
                    clear HN HPg
                    go_wp2
                    go_ret2
                    rw [← HR'.out]; exact RefEnd.bad 2 (by omega) HIv.out.bel
                  | true =>
                    have hpg' := (pageOk_iff x).1 hpg
                    rw [hpg] at HPg
                    rw [hpg, if_neg (by simp)] at HR
                    clear hpg
                    by_cases hm56 : p % 64 = 56 ∧ 64 < left
                    · rw [if_pos hm56] at HR
                      have HR' := Lib.hid HR
                      have hp56 := hm56.1
                      have g1 : ((64 - p % 64) / 8 == 1) = true := by simp; omega
                      have g2 : decide (1 < (left + 63) / 64) = true := decide_eq_true (by omega)
                      clear HR hm56
                      go_wp2_with fail
                      refine HN.out.mono ?_
                      rintro e w' ⟨rfl, rfl⟩
                      go_wp2_with fail
                      refine HPg.out.mono ?_
                      rintro e w' ⟨rfl, rfl⟩
                      clear HN HPg
                      go_wp2
                      go_roundw
                      case rel =>
                        refine ⟨x, left, segs, f, rfl, rfl, hx0, by omega, by omega, hl0, hl1, HIv.out.sl, HIv.out.own, HIv.out.bel, HR'.out, ?_⟩
                        have := HIv.out.most
                        unfold listMost at this ⊢
                        rw [if_pos hp56] at this
                        rw [if_neg (by omega)]
                        omega
                      case measure =>
                        simp only [intOf]
                        unfold listMost
                        rw [if_pos hp56, if_neg (by omega)]
                        omega
                    · rw [if_neg hm56] at HR
                      have hsl := HIv.out.sl
                      have hsw := HIv.out.bel.size
                      have HFt := Lib.hid (HF2.out x (min 64 left) wr (by omega) (by omega) (by omega) (by omega))
                      obtain ⟨m, hm⟩ : ∃ m, m = min 64 left := ⟨_, rfl⟩
                      rw [← hm] at HFt HR
                      have hm0 : 1 ≤ m := by omega
                      have hm1 : m ≤ left := by omega
                      have hm2 : m ≤ 64 := by omega
                      have HO1 := Lib.hid (HIv.out.own.alloc (.cells #[.int .i64 x, .int .i64 m] 43))
                      cases hf : memFits bs.length x m with
                      | false =>
                        rw [hf, if_neg (by simp)] at HR
                        rw [hf] at HFt
                        have HR' := Lib.hid HR
                        clear HR hf
                        by_cases h56 : p % 64 = 56
                        · have g1 : ((64 - p % 64) / 8 == 1) = true := by simp; omega
                          have g2 : decide (1 < (left + 63) / 64) = false := decide_eq_false (by omega)
                          by_cases hl64 : left < 64
                          · obtain rfl : m = left := by omega
                            clear hm hm56
                            go_wp2_with fail
                            refine HN.out.mono ?_
                            rintro e w' ⟨rfl, rfl⟩
                            go_wp2_with fail
                            refine HPg.out.mono ?_
                            rintro e w' ⟨rfl, rfl⟩
                            go_wp2_with fail
                            refine HFt.out.mono ?_
                            rintro e w' ⟨rfl, rfl⟩
                            clear HN HPg HFt
                            go_wp2
                            go_ret2
                            rw [← HR'.out]; exact RefEnd.bad 1 (by omega) HIv.out.bel
                          · obtain rfl : m = 64 := by omega
                            clear hm hm56
                            go_wp2_with fail
                            refine HN.out.mono ?_
                            rintro e w' ⟨rfl, rfl⟩
                            go_wp2_with fail
                            refine HPg.out.mono ?_
                            rintro e w' ⟨rfl, rfl⟩
                            go_wp2_with fail
                            refine HFt.out.mono ?_
                            rintro e w' ⟨rfl, rfl⟩
                            clear HN HPg HFt
                            go_wp2
                            go_ret2
                            rw [← HR'.out]; exact RefEnd.bad 1 (by omega) HIv.out.bel
                        · have g1 : ((64 - p % 64) / 8 == 1) = false := by simp; omega
                          by_cases hl64 : left < 64
                          · obtain rfl : m = left := by omega
                            clear hm hm56
                            go_wp2_with fail
                            refine HN.out.mono ?_
                            rintro e w' ⟨rfl, rfl⟩
                            go_wp2_with fail
                            refine HPg.out.mono ?_
                            rintro e w' ⟨rfl, rfl⟩
                            go_wp2_with fail
                            refine HFt.out.mono ?_
                            rintro e w' ⟨rfl, rfl⟩
                            clear HN HPg HFt
                            go_wp2
                            go_ret2
                            rw [← HR'.out]; exact RefEnd.bad 1 (by omega) HIv.out.bel
                          · obtain rfl : m = 64 := by omega
                            clear hm hm56
                            go_wp2_with fail
                            refine HN.out.mono ?_
                            rintro e w' ⟨rfl, rfl⟩
                            go_wp2_with fail
                            refine HPg.out.mono ?_
                            rintro e w' ⟨rfl, rfl⟩
                            go_wp2_with fail
                            refine HFt.out.mono ?_
                            rintro e w' ⟨rfl, rfl⟩
                            clear HN HPg HFt
                            go_wp2
                            go_ret2
                            rw [← HR'.out]; exact RefEnd.bad 1 (by omega) HIv.out.bel
                      | true =>
                        rw [hf, if_pos rfl] at HR
                        rw [hf] at HFt
                        have HR' := Lib.hid HR
                        clear HR hf
                        have g : (((64 - p % 64) / 8 == 1) = true ∧ decide (1 < (left + 63) / 64) = false) ∨ ((64 - p % 64) / 8 == 1) = false := by
                          by_cases h56 : p % 64 = 56
                          · exact .inl ⟨by simp; omega, decide_eq_false (by omega)⟩
                          · exact .inr (by simp; omega)
                        have gm : (left < 64 ∧ m = left) ∨ (¬ left < 64 ∧ m = 64) := by omega
                        have hp57 : p % 64 = 56 → ¬ 64 < left := fun h1 h2 => hm56 ⟨h1, h2⟩
                        have HMost := Lib.hid HIv.out.most
                        have HMore : Hid (listMost (p + 8) (left - m) ≤ f) := by
                          have := HIv.out.most
                          show listMost (p + 8) (left - m) ≤ f
                          unfold listMost at this ⊢
                          split at this <;> split <;> omega
                        have HMeas : Hid (listMost (p + 8) (left - m) < listMost p left) := by
                          show listMost (p + 8) (left - m) < listMost p left
                          unfold listMost
                          split <;> split <;> omega
                        clear hm hm56 hp57
                        rcases g with ⟨g1, g2⟩ | g1
                        all_goals rcases gm with ⟨hl64, rfl⟩ | ⟨hl64, rfl⟩
                        all_goals
                          go_wp2_with fail
                          refine HN.out.mono ?_
                          rintro e w' ⟨rfl, rfl⟩
                          go_wp2_with fail
                          refine HPg.out.mono ?_
                          rintro e w' ⟨rfl, rfl⟩
                          go_wp2_with fail
                          refine HFt.out.mono ?_
                          rintro e w' ⟨rfl, rfl⟩
                          clear HN HPg HFt
                          go_wp2_with (at_builtin; refine wpList_append_own _ rfl _ _ 39 rfl w.heap.size 43 i0 (.agg #[.int .i64 0, .int .i64 0]) 2 16 Tryd.underlying39 Hi.out Hz0.out Hz1.out Hz2.out rfl (by decide) _ _ _ rfl HO1.out ⟨wr.heap.size, 0, none⟩ 1 1 [.int .i64 x, .int .i64 _] rfl rfl (two_news _ _ _ _ _ rfl) (by intro u hu; simp at hu; rcases hu with rfl | rfl <;> rfl) (by unfold maxLen; omega) (by omega) (by simp; omega) ?_)
                          intro v' w6 hown' hgrow _
                          have HO6 := Lib.hid hown'
                          have HB6 := Lib.hid (((HIv.out.bel.alloc hsw (.cells #[.int .i64 x, .int .i64 _] 43))).grown hgrow (by simp; omega) (fun k hk => (HIv.out.own.lt k hk).1))
                          clear hown' hgrow HO1
                          go_wp2
                          go_roundw
                          case rel =>
                            refine ⟨p + 8, _, segs ++ [(x, _)], f, rfl, rfl, by omega, by omega, by omega, by omega, by omega, ?_, ?_, HB6.out, by first | exact HR'.out | (have := HR'.out; rw [Int.sub_self] at this; exact this), by first | exact HMore.out | (have := HMore.out; rw [Int.sub_self] at this; exact this)⟩
                            · simp only [List.length_append, List.length_singleton]; omega
                            · rw [segCells_append, List.length_append]; exact HO6.out
                          case measure => (simp only [intOf]; first | exact HMeas.out | (have := HMeas.out; rw [Int.sub_self] at this; exact this))

theorem walkOf_any (a : Option Addr) (c : Nat) (bs : List Int) (first second long : Int) (w : World) (hr : RdB w a bs) (hb : ∀ x ∈ bs, 0 ≤ x ∧ x ≤ 255) (hs : bs.length ≤ 16384) (hc : bs.length ≤ c) (f0 : -9223372036854775808 ≤ first) (f1 : first ≤ 9223372036854775807) (s0 : -9223372036854775808 ≤ second) (s1 : second ≤ 9223372036854775807)
    (l0 : -9223372036854775808 ≤ long) (l1 : long ≤ 9223372036854775807) :
    Calls Tryd.prog 29 #[.slice a bs.length c, .int .i64 first, .int .i64 second, .int .i64 long] w (RefEnd (walkRes bs first second long) w) := by
  by_cases h : long < 1 ∨ 2048 < long ∨ first % 4 ≠ 0 ∨ first < 0
  · exact walkOf_early a bs.length c bs first second long w f0 f1 l0 l1 h
  · exact walkOf_late a c bs first second long w hr hb hs hc f1 s0 s1 (by omega) (by omega) (by omega) (by omega)

set_option maxRecDepth 100000 in
set_option maxHeartbeats 4000000 in
theorem segments_same (a a' : Option Addr) (c c' : Nat) (segs : List (Int × Int)) (w : World) (h : SegRd w a segs) (h' : SegRd w a' segs) (hl : segs.length ≤ 4000000000000000000) :
    Calls Tryd.prog 30 #[.slice a segs.length c, .slice a' segs.length c'] w fun e w' => e = .returned (.bool true) ∧ ∃ k, w' = w.drewN k := by
  have H := Lib.hid h
  have H' := Lib.hid h'
  clear h h'
  generalize hn : segs.length = n at *
  have HN := Lib.hid hn
  clear hn
  go_enter Tryd.func30, Tryd.ntmps30
  go_wp2_with fail
  go_loopw [5] (fun i wr => ∃ k q : Nat, k ≤ n ∧ i = .int .i64 k ∧ wr = w.drewN q) (fun i _ => n - (intOf i).toNat)
  case atStart => exact ⟨0, 0, Nat.zero_le _, rfl, rfl⟩
  case round =>
    obtain ⟨k, q, hk, rfl, rfl⟩ := hrel
    by_cases hlt : k < n
    · have hkl : k < segs.length := by have := HN.out; omega
      obtain ⟨b, off, rfl, hb, hc⟩ := H.out.resolve_left (by omega)
      obtain ⟨b', off', rfl, hb', hc'⟩ := H'.out.resolve_left (by omega)
      obtain ⟨c1, c2⟩ := hc k hkl
      obtain ⟨c3, c4⟩ := hc' k hkl
      clear hc hc' H H'
      generalize segs.getD k (0, 0) = s at *
      obtain ⟨x, y⟩ := s
      simp only [] at c1 c2 c3 c4
      go_wp2_with fail
      go_quiet (fail)
      clear c1 c2 c3 c4
      go_wp2
      go_roundw
      case rel => exact ⟨k + 1, _, by omega, by go_num, rfl⟩
      case measure => simp [intOf]; omega
    · obtain rfl : k = n := by omega
      go_wp2
      go_ret
      exact ⟨rfl, _, rfl⟩
end Go.Proofs.YtnapgigemdmigaaDoor
