/- granaryref2.BuildOf. -/
import Derived.Test.YtnapgigemdmigaaDoorWalkRef
import Derived.Test.YtnapgigemdmigaaDoorBuild
import Derived.Test.YtnapgigemdmigaaDoorEight
import Derived.Test.YtnapgigemdmigaaDoorBase3
import Derived.Test.YtnapgigemdmigaaDoorSplice
namespace Go.Proofs.YtnapgigemdmigaaDoor
open Go.RowKit
set_option linter.unusedVariables false

def BuildOfEnd (B : Built) (L : Nat) (w : World) (e : Ending) (w' : World) : Prop :=
  ∃ a2 c2, e = .returned (.tuple #[.int .i64 B.u, .int .i64 B.v, .slice a2 L c2, .int .i64 B.e]) ∧ B.bs.length = L ∧ RdB w' a2 B.bs ∧ Below w.heap.size w w'
theorem fitsAll_no {L : Nat} {p : Int} {n k : Nat} (hp : 0 ≤ p) (hk : k < n) (h : memFits L (p + 8 * k) 8 = false) : memFits L p (8 * n) = false := by
  have h1 : ¬ (0 ≤ p + 8 * (k : Int) ∧ (0 : Int) ≤ 8 ∧ (8 : Int) ≤ L ∧ p + 8 * (k : Int) ≤ L - 8) := of_decide_eq_false h
  exact decide_eq_false (by omega)
theorem calls_cast1 {P : Program} {f : FuncId} {x x' : Int} {w : World} {Q : Ending → World → Prop} (h : Calls P f #[.int .i64 x] w Q) (hx : x' = x) : Calls P f #[.int .i64 x'] w Q := by
  subst hx; exact h
theorem chainFrom_one (put x : Int) : chainFrom put [x] = [x] := rfl
theorem chainFrom_step (put x y : Int) (t : List Int) (h : put % 64 ≠ 56) : chainFrom put (x :: y :: t) = x :: chainFrom (put + 8) (y :: t) := by
  rw [chainFrom, if_neg h]
theorem chainFrom_link (put x y : Int) (t : List Int) (h : put % 64 = 56) : chainFrom put (x :: y :: t) = (put + 8) :: chainFrom (put + 8) (x :: y :: t) := by
  rw [chainFrom, if_pos h, chainFrom_step (put + 8) x y t (by omega), show put + 8 + 8 = put + 16 by omega]

set_option maxRecDepth 100000 in
set_option maxHeartbeats 8000000 in
theorem buildOf_early (a : Option Addr) (c : Nat) (bs : List Int) (at_ : Int) (pa : Option Addr) (pn pc : Nat) (offset long : Int) (w : World) (hr : RdB w a bs) (o0 : -9223372036854775808 ≤ offset) (o1 : offset ≤ 9223372036854775807) (l0 : -9223372036854775808 ≤ long) (l1 : long ≤ 9223372036854775807)
    (pages : List Int) (h : long < 1 ∨ 2048 < long ∨ offset < 0 ∨ 60 < offset ∨ offset % 4 ≠ 0) :
    Calls Tryd.prog 27 #[.slice a bs.length c, .int .i64 at_, .slice pa pn pc, .int .i64 offset, .int .i64 long] w (BuildOfEnd (buildRes bs at_ pages offset long) bs.length w) := by
  obtain ⟨R, hR⟩ : ∃ R, buildRes bs at_ pages offset long = R := ⟨_, rfl⟩
  rw [hR]
  unfold buildRes at hR
  have HR0 := Lib.hid hR
  clear hR
  have fin : ∀ k, R = ⟨0, 0, bs, k⟩ → BuildOfEnd R bs.length w (.returned (.tuple #[.int .i64 0, .int .i64 0, .slice a bs.length c, .int .i64 k])) w := fun k e => by
    subst e
    exact ⟨a, c, rfl, rfl, hr, Below.refl _ _⟩
  have HFin := Lib.hid fin
  clear fin
  by_cases c1 : long < 1
  · have HR := Lib.hid (show R = ⟨0, 0, bs, 1⟩ by rw [← HR0.out, if_pos (.inl c1)])
    go_enter Tryd.func27, Tryd.ntmps27
    go_wp2
    exact bodyPost_ret (v := .tuple #[.int .i64 0, .int .i64 0, .slice a bs.length c, .int .i64 1]) (by simp [results, Tryd.results27, go_sem]) rfl (HFin.out 1 HR.out)
  by_cases c2 : 2048 < long
  · have HR := Lib.hid (show R = ⟨0, 0, bs, 1⟩ by rw [← HR0.out, if_pos (.inr (.inl c2))])
    go_enter Tryd.func27, Tryd.ntmps27
    go_wp2
    exact bodyPost_ret (v := .tuple #[.int .i64 0, .int .i64 0, .slice a bs.length c, .int .i64 1]) (by simp [results, Tryd.results27, go_sem]) rfl (HFin.out 1 HR.out)
  by_cases c3 : offset < 0
  · have HR := Lib.hid (show R = ⟨0, 0, bs, 1⟩ by rw [← HR0.out, if_pos (.inr (.inr (.inl c3)))])
    go_enter Tryd.func27, Tryd.ntmps27
    go_wp2
    exact bodyPost_ret (v := .tuple #[.int .i64 0, .int .i64 0, .slice a bs.length c, .int .i64 1]) (by simp [results, Tryd.results27, go_sem]) rfl (HFin.out 1 HR.out)
  by_cases c4 : 60 < offset
  · have HR := Lib.hid (show R = ⟨0, 0, bs, 1⟩ by rw [← HR0.out, if_pos (.inr (.inr (.inr c4)))])
    go_enter Tryd.func27, Tryd.ntmps27
    go_wp2
    exact bodyPost_ret (v := .tuple #[.int .i64 0, .int .i64 0, .slice a bs.length c, .int .i64 1]) (by simp [results, Tryd.results27, go_sem]) rfl (HFin.out 1 HR.out)
  have hsh : offset % 4 ≠ 0 := by omega
  have HR := Lib.hid (show R = ⟨0, 0, bs, 2⟩ by rw [← HR0.out, if_neg (by omega), if_pos (.inl hsh)])
  have d1 : (offset % 4 != 0) = true := by simp; exact hsh
  clear hsh h
  go_enter Tryd.func27, Tryd.ntmps27
  go_wp2
  exact bodyPost_ret (v := .tuple #[.int .i64 0, .int .i64 0, .slice a bs.length c, .int .i64 2]) (by simp [results, Tryd.results27, go_sem]) rfl (HFin.out 2 HR.out)

/-- the document's list in the making: k numbers stand, the pages from r on are left -/
structure RefPut (bs : List Int) (at_ : Int) (pages nums : List Int) (g cap : Nat) (w0 : World) (k r pb off : Nat) (ra : Option Addr) (wr : World) : Prop where
  r1 : 1 ≤ r
  rl : r ≤ pages.length
  fit : 0 < k → at_ + 8 * k ≤ bs.length
  adr : r < pages.length → ra = some ⟨pb, off + r, none⟩
  chain : chainFrom (at_ + 8 * k) (pages.drop r) = nums.drop k
  own : wr.ownsRow w0.heap.size 5 1 (.slice (some ⟨g, 0, none⟩) bs.length cap) bs.length ((splice bs at_.toNat (digs (nums.take k))).map (Value.int .u8))
  bel : Below w0.heap.size w0 wr

set_option maxRecDepth 100000 in
set_option maxHeartbeats 16000000 in
theorem buildOf_late (a : Option Addr) (c : Nat) (bs : List Int) (at_ : Int) (pa : Option Addr) (pc : Nat) (pages : List Int) (offset long : Int) (w : World) (hr : ∀ w', Below w.heap.size w w' → RdB w' a bs) (hac : a = none → bs.length = 0 ∧ c = 0) (hbyte : ∀ x ∈ bs, 0 ≤ x ∧ x ≤ 255) (hL : bs.length ≤ 16384) (a0 : -9223372036854775808 ≤ at_) (a1 : at_ ≤ 9223372036854775807)
    (hpc : pages.length ≤ pc) (hpr : pages.length = 0 ∨ ∃ b off, pa = some ⟨b, off, none⟩ ∧ b < w.heap.size ∧ ∀ w', Below w.heap.size w w' → ∀ i, i < pages.length → w'.cell? ⟨b, off + i, none⟩ = some (.int .i64 (pages.getD i 0)))
    (hwf : ∀ x ∈ pages, -9223372036854775808 ≤ x ∧ x ≤ 9223372036854775807) (hn : pages.length ≤ 1000000000000000000) (o0 : 0 ≤ offset) (o1 : offset ≤ 60) (o4 : offset % 4 = 0) (l0 : 1 ≤ long) (l1 : long ≤ 2048) :
    Calls Tryd.prog 27 #[.slice a bs.length c, .int .i64 at_, .slice pa pages.length pc, .int .i64 offset, .int .i64 long] w (BuildOfEnd (buildRes bs at_ pages offset long) bs.length w) := by
  have HRd := Lib.hid hr
  have HAc := Lib.hid hac
  have HBy := Lib.hid hbyte
  have HWf := Lib.hid hwf
  have HPr := Lib.hid hpr
  obtain ⟨R, hR⟩ : ∃ R, buildRes bs at_ pages offset long = R := ⟨_, rfl⟩
  rw [hR]
  unfold buildRes at hR
  rw [if_neg (by omega)] at hR
  have HR0 := Lib.hid hR
  have d1 : (offset % 4 != 0) = false := by simp; exact o4
  have O4 := Lib.hid o4
  have fin : ∀ k, R = ⟨0, 0, bs, k⟩ → BuildOfEnd R bs.length w (.returned (.tuple #[.int .i64 0, .int .i64 0, .slice a bs.length c, .int .i64 k])) w := fun k e => by
    subst e
    exact ⟨a, c, rfl, rfl, hr w (Below.refl _ _), Below.refl _ _⟩
  have HFin := Lib.hid fin
  obtain ⟨need, hneed⟩ : ∃ need : Nat, (need : Int) = (offset + long + 63) / 64 := ⟨((offset + long + 63) / 64).toNat, by omega⟩
  have hn1 : 1 ≤ need := by omega
  have hn33 : need ≤ 33 := by omega
  have HNeed := Lib.hid hneed
  have hlo : 64 * (need : Int) < offset + long + 64 := by omega
  have hhi : offset + long ≤ 64 * (need : Int) := by omega
  clear hr hac hbyte hwf hpr hR o4 fin hneed
  go_enter Tryd.func27, Tryd.ntmps27
  go_wp2_with fail
  clear d1
  go_loopw [14] (fun i wr => ∃ k : Nat, 1 ≤ k ∧ k ≤ need ∧ i = .int .i64 k ∧ wr = w) (fun i _ => need - (intOf i).toNat)
  case atStart => exact ⟨1, by omega, by omega, rfl, rfl⟩
  case round =>
    obtain ⟨k, hk1, hk2, rfl, rfl⟩ := hrel
    by_cases hlt : k < need
    · have hlt2 : (k : Int) * 64 < offset + long := by omega
      go_wp2
      go_roundw
      case rel => exact ⟨k + 1, by omega, by omega, by go_num, by trivial⟩
      case measure => simp [intOf]; omega
    · obtain rfl : k = need := by omega
      have hge : ¬ (k : Int) * 64 < offset + long := by omega
      clear hlt hk1 hk2
      by_cases hlen : pages.length = k
      · have dl : ((pages.length : Int) != (k : Int)) = false := by simp; omega
        have HLen := Lib.hid hlen
        have HL : Hid ((pages.length : Int) = (offset + long + 63) / 64) := by
          show (pages.length : Int) = _
          rw [← HNeed.out, HLen.out]
        have hR := HR0.out
        rw [if_neg (by have h1 := O4.out; have h2 := HL.out; omega)] at hR
        have HR1 := Lib.hid hR
        obtain ⟨pb, off, rfl, hpl, hcell⟩ := HPr.out.resolve_left (by omega)
        have HC := Lib.hid (fun i hi => hcell wr (Below.refl _ _) i hi)
        have HCw := Lib.hid hcell
        clear hlen hR HR0 hcell HPr
        go_wp2_with fail
        clear dl
        rename World => w0
        go_loopw [15] (fun i wr => ∃ j : Nat, j ≤ k ∧ i = .int .i64 j ∧ wr = w0 ∧ ∀ i', i' < j → pageOk (pages.getD i' 0) = true) (fun i _ => k - (intOf i).toNat)
        case atStart => exact ⟨0, Nat.zero_le _, rfl, rfl, fun i h => by omega⟩
        case round =>
          obtain ⟨j, hj, rfl, rfl, hok⟩ := hrel
          have HOk := Lib.hid hok
          clear hok
          by_cases hjk : j < k
          · have hjp : j < pages.length := by have := HLen.out; omega
            have hc := HC.out j hjp
            have hmem : pages.getD j 0 ∈ pages := by simp [List.getD, hjp]
            have hwj := HWf.out _ hmem
            have HMem := Lib.hid hmem
            have HNext : Hid (pageOk (pages.getD j 0) = true → ∀ i', i' < j + 1 → pageOk (pages.getD i' 0) = true) := fun h i' hi' => by
              by_cases e : i' = j
              · subst e; exact h
              · exact HOk.out i' (by omega)
            have i1 : (j : Int) < (pages.length : Int) := by omega
            clear hmem
            generalize pages.getD j 0 = x at *
            have HA := Lib.hid (ref_pageAt x wr hwj.1 hwj.2)
            cases hpg : pageOk x with
            | false =>
              rw [hpg] at HA
              have HR : Hid (R = ⟨0, 0, bs, 2⟩) := by
                show R = _
                rw [← HR1.out, if_pos]
                cases hq : pages.all pageOk with
                | false => rfl
                | true =>
                  have := List.all_eq_true.1 hq x HMem.out
                  rw [hpg] at this; cases this
              clear hpg
              go_wp2_with fail
              refine HA.out.mono ?_
              rintro e w' ⟨rfl, rfl⟩
              clear HA
              go_wp2
              exact bodyPost_ret (v := .tuple #[.int .i64 0, .int .i64 0, .slice a bs.length c, .int .i64 2]) (by simp [results, Tryd.results27, go_sem]) rfl (HFin.out 2 HR.out)
            | true =>
              rw [hpg] at HA
              have HN2 := Lib.hid (HNext.out hpg)
              clear hpg HNext
              go_wp2_with fail
              refine HA.out.mono ?_
              rintro e w' ⟨rfl, rfl⟩
              clear HA
              go_wp2
              go_roundw
              case rel => exact ⟨j + 1, by omega, by go_num, by trivial, HN2.out⟩
              case measure => simp [intOf]; omega
          · obtain rfl : j = k := by omega
            have hall : pages.all pageOk = true := List.all_eq_true.2 (fun x hx => by
              obtain ⟨i, hi, e⟩ := List.mem_iff_getElem.1 hx
              have := HOk.out i (by have := HLen.out; omega)
              simpa [List.getD, hi, e] using this)
            have hR := HR1.out
            rw [if_neg (by rw [hall]; simp)] at hR
            have HR2 := Lib.hid hR
            have HAll := Lib.hid hall
            have HPat := Lib.hid (ref_pageAt at_ wr a0 a1)
            clear hR hall HR1 HOk hjk hj
            by_cases hsh : 2 < j ∧ pageOk at_ = false
            · have HR := Lib.hid (show R = ⟨0, 0, bs, 2⟩ by rw [← HR2.out, if_pos (by have := HLen.out; exact ⟨by omega, hsh.2⟩)])
              rw [hsh.2] at HPat
              have h2i : (2 : Int) < (j : Int) := by have := hsh.1; omega
              clear hsh
              go_wp2_with fail
              refine HPat.out.mono ?_
              rintro e w' ⟨rfl, rfl⟩
              clear HPat
              go_wp2
              exact bodyPost_ret (v := .tuple #[.int .i64 0, .int .i64 0, .slice a bs.length c, .int .i64 2]) (by simp [results, Tryd.results27, go_sem]) rfl (HFin.out 2 HR.out)
            · have hR := HR2.out
              rw [if_neg (by have := HLen.out; rw [this]; exact hsh)] at hR
              have HR3 := Lib.hid hR
              have HSh := Lib.hid hsh
              obtain ⟨okb, hokb⟩ : ∃ okb, okb = pageOk at_ := ⟨_, rfl⟩
              rw [← hokb] at HPat
              have hcs : ((2 : Int) < (j : Int) ∧ okb = true) ∨ (decide ((2 : Int) < (j : Int)) = false) := by
                by_cases h2 : 2 < j
                · refine .inl ⟨by omega, ?_⟩
                  rw [hokb]
                  cases hp : pageOk at_ with
                  | true => rfl
                  | false => exact absurd ⟨h2, hp⟩ hsh
                · exact .inr (decide_eq_false (by omega))
              clear hR HR2 hokb hsh
              go_wp2_with fail
              refine HPat.out.mono ?_
              rintro e w' ⟨rfl, rfl⟩
              clear HPat
              rename World => w1
              go_upto_region 17 with fail
              go_cut [80] (fun s80 wx => s80 = .bool false ∧ wx = w1)
              case first =>
                rcases hcs with ⟨h2, rfl⟩ | h2
                · go_wp2
                  go_meet
                  case rel => exact ⟨rfl, rfl⟩
                · go_wp2
                  go_meet
                  case rel => exact ⟨rfl, rfl⟩
              case rest =>
                obtain ⟨rfl, rfl⟩ := hcut
                clear hcs
                have hj33 : j ≤ 33 := hn33
                go_wp2_with fail
                rename World => w2
                go_loopw [18, 19] (fun l i wr => ∃ (q : Nat) (left : Int), q ≤ j ∧ i = .int .i64 q ∧ l = .int .i64 left ∧ (q = 0 → left = long) ∧ (0 < q → q < j → left = offset + long - 64 * q) ∧ wr = w2 ∧ fitRem bs.length pages offset long q = fitPages bs.length pages offset long) (fun _ i _ => j - (intOf i).toNat)
                case atStart => exact ⟨0, long, Nat.zero_le _, rfl, rfl, fun _ => rfl, fun h _ => by omega, rfl, rfl⟩
                case round =>
                  obtain ⟨q, left, hq, rfl, rfl, hl0, hl1, rfl, hfit⟩ := hrel
                  have HFit := Lib.hid hfit
                  have HL0 := Lib.hid hl0
                  have HL1 := Lib.hid hl1
                  clear hfit hl0 hl1
                  by_cases hqj : q < j
                  · have hqp : q < pages.length := by have := HLen.out; omega
                    obtain ⟨hst, hpl1, hpl64⟩ := fitRem_step bs.length pages offset long q hqp o0 o1 l0 HL.out
                    rw [hst] at HFit
                    have hc := HC.out q hqp
                    have hmem : pages.getD q 0 ∈ pages := by simp [List.getD, hqp]
                    have hwj := HWf.out _ hmem
                    have hpg := (pageOk_iff _).1 (List.all_eq_true.1 HAll.out _ hmem)
                    have i1 : (q : Int) < (pages.length : Int) := by omega
                    have hleft : 1 ≤ left ∧ left ≤ 2108 := by
                      by_cases h0 : q = 0
                      · have := HL0.out h0; omega
                      · have := HL1.out (by omega) hqj; omega
                    have hcs : (((q : Int) == 0) = true ∧ pieceAt pages offset q = pages.getD q 0 + offset ∧ ((left < 64 - offset ∧ pieceLong pages.length offset long q = left) ∨ (¬ left < 64 - offset ∧ pieceLong pages.length offset long q = 64 - offset))) ∨
                        (((q : Int) == 0) = false ∧ pieceAt pages offset q = pages.getD q 0 ∧ ((left < 64 ∧ pieceLong pages.length offset long q = left) ∨ (¬ left < 64 ∧ pieceLong pages.length offset long q = 64))) := by
                      unfold pieceAt pieceLong
                      have hlen := HLen.out
                      by_cases h0 : q = 0
                      · have h3 := HL0.out h0
                        refine .inl ⟨by simp; omega, by rw [if_pos h0], ?_⟩
                        rw [if_pos h0]
                        by_cases hlt : left < 64 - offset
                        · exact .inl ⟨hlt, by split <;> omega⟩
                        · exact .inr ⟨hlt, by split <;> omega⟩
                      · have h3 := HL1.out (by omega) hqj
                        refine .inr ⟨by simp; omega, by rw [if_neg h0]; omega, ?_⟩
                        rw [if_neg h0]
                        by_cases hlt : left < 64
                        · exact .inl ⟨hlt, by split <;> omega⟩
                        · exact .inr ⟨hlt, by split <;> omega⟩
                    clear hst hmem
                    generalize pages.getD q 0 = x at *
                    generalize pieceAt pages offset q = pa at *
                    generalize hPL : pieceLong pages.length offset long q = pl at *
                    have HPL := Lib.hid hPL
                    have hpab : 0 ≤ pa ∧ pa ≤ 9223372036854775807 := by rcases hcs with h | h <;> omega
                    have HF := Lib.hid (ref_fits bs.length pa pl wr hL (by omega) hpab.2 (by omega) (by omega))
                    have HNx : Hid ((q + 1 = 0 → left - pl = long) ∧ (0 < q + 1 → q + 1 < j → left - pl = offset + long - 64 * ((q + 1 : Nat) : Int))) := by
                      refine ⟨fun h => by omega, fun _ hlt => ?_⟩
                      have hlen := HLen.out
                      have h5 := HPL.out
                      unfold pieceLong at h5
                      rw [if_neg (by omega)] at h5
                      by_cases h0 : q = 0
                      · have h3 := HL0.out h0
                        rw [if_pos h0] at h5; omega
                      · have h3 := HL1.out (by omega) hqj
                        rw [if_neg h0] at h5; omega
                    clear hPL
                    cases hf : memFits bs.length pa pl with
                    | false =>
                      have hfp : fitPages bs.length pages offset long = false := by rw [← HFit.out, hf]; rfl
                      rw [hf] at HF
                      have HR := Lib.hid (show R = ⟨0, 0, bs, 1⟩ by rw [← HR3.out, if_pos hfp])
                      clear hf hfp HFit
                      rcases hcs with ⟨dq, ea, ⟨hlt, el⟩ | ⟨hlt, el⟩⟩ | ⟨dq, ea, ⟨hlt, el⟩ | ⟨hlt, el⟩⟩
                      all_goals
                        have EA := Lib.hid ea
                        have EL := Lib.hid el
                        clear ea el
                        go_wp2_with fail
                        refine (calls_cast2 HF.out (by have := EA.out; omega) (by have := EL.out; omega)).mono ?_
                        rintro e w' ⟨rfl, rfl⟩
                        clear HF hc
                        go_wp2
                        exact bodyPost_ret (v := .tuple #[.int .i64 0, .int .i64 0, .slice a bs.length c, .int .i64 1]) (by simp [results, Tryd.results27, go_sem]) rfl (HFin.out 1 HR.out)
                    | true =>
                      rw [hf, Bool.true_and] at HFit
                      rw [hf] at HF
                      clear hf
                      rcases hcs with ⟨dq, ea, ⟨hlt, el⟩ | ⟨hlt, el⟩⟩ | ⟨dq, ea, ⟨hlt, el⟩ | ⟨hlt, el⟩⟩
                      all_goals
                        have EA := Lib.hid ea
                        have EL := Lib.hid el
                        clear ea el
                        go_wp2_with fail
                        refine (calls_cast2 HF.out (by have := EA.out; omega) (by have := EL.out; omega)).mono ?_
                        rintro e w' ⟨rfl, rfl⟩
                        clear HF hc
                        go_wp2
                        go_roundw
                        case rel => exact ⟨q + 1, _, by omega, by go_num, rfl, fun h => by omega, fun h1 h2 => by have h3 := HNx.out.2 h1 h2; have h4 := EL.out; omega, by trivial, HFit.out⟩
                        case measure => simp [intOf]; omega
                  · obtain rfl : q = j := by omega
                    have hlen := HLen.out
                    have hfp : fitPages bs.length pages offset long = true := by
                      rw [← HFit.out, ← hlen]; exact fitRem_end _ _ _ _ (by omega)
                    have hR := HR3.out
                    rw [if_neg (by rw [hfp]; simp)] at hR
                    have HR4 := Lib.hid hR
                    have HFp := Lib.hid hfp
                    have hc0 : wr.cell? ⟨pb, off, none⟩ = some (.int .i64 (pages.getD 0 0)) := by have := HC.out 0 (by omega); simpa using this
                    have hb0 : 0 ≤ pages.getD 0 0 ∧ pages.getD 0 0 + 64 ≤ 9223372036854775808 := by
                      have hmem : pages.getD 0 0 ∈ pages := by simp [List.getD, show 0 < pages.length by omega]
                      have h1 := HWf.out _ hmem
                      have h2 := (pageOk_iff _).1 (List.all_eq_true.1 HAll.out _ hmem)
                      omega
                    have hlp : (0 : Int) < (pages.length : Int) := by omega
                    clear hR hfp HFit HR3 HL0 HL1 hlen
                    by_cases hn1' : q = 1
                    · have hlen := HLen.out
                      have hR := HR4.out
                      have hln : listNums at_ pages = [] := by unfold listNums; rw [if_neg (by omega)]
                      rw [if_neg (by omega), hln, if_pos (by omega), show splice bs at_.toNat (digs []) = bs by simp [splice, digs]] at hR
                      have HR := Lib.hid hR
                      have e1 : ((q : Int) == 1) = true := by simp; omega
                      have HRd0 := Lib.hid (HRd.out wr (Below.refl _ _))
                      clear hR hln HR4 hlen hn1'
                      generalize pages.getD 0 0 = x0 at *
                      go_wp2
                      exact bodyPost_ret (v := .tuple #[.int .i64 (x0 + offset), .int .i64 0, .slice a bs.length c, .int .i64 0]) (by simp [results, Tryd.results27, go_sem]) rfl (by rw [← HR.out]; exact ⟨a, c, rfl, rfl, HRd0.out, Below.refl _ _⟩)
                    · have e1 : ((q : Int) == 1) = false := by simp; omega
                      by_cases hn2 : q = 2
                      · have hlen := HLen.out
                        have hR := HR4.out
                        have hln : listNums at_ pages = [] := by unfold listNums; rw [if_neg (by omega)]
                        rw [if_neg (by omega), hln, if_neg (by omega), if_pos (by omega), show splice bs at_.toNat (digs []) = bs by simp [splice, digs]] at hR
                        have HR := Lib.hid hR
                        have e2 : ((q : Int) == 2) = true := by simp; omega
                        have HRd0 := Lib.hid (HRd.out wr (Below.refl _ _))
                        have hc1 : wr.cell? ⟨pb, off + 1, none⟩ = some (.int .i64 (pages.getD 1 0)) := HC.out 1 (by omega)
                        have hlp1 : (1 : Int) < (pages.length : Int) := by omega
                        clear hR hln HR4 hlen hn1' hn2
                        generalize pages.getD 0 0 = x0 at *
                        generalize pages.getD 1 0 = x1 at *
                        go_wp2_with fail
                        have e3 : IntKind.i64.wrap (x0 + offset) = x0 + offset := IntWalk.i64_in _ (by omega)
                        go_quiet (fail)
                        clear e3
                        go_wp2
                        exact bodyPost_ret (v := .tuple #[.int .i64 (x0 + offset), .int .i64 x1, .slice a bs.length c, .int .i64 0]) (by simp [results, Tryd.results27, go_sem]) rfl (by rw [← HR.out]; exact ⟨a, c, rfl, rfl, HRd.out _ (below_drewN (Below.refl _ _) _), below_drewN (Below.refl _ _) _⟩)
                      · have e2 : ((q : Int) == 2) = false := by simp; omega
                        have h3 : 3 ≤ q := by omega
                        have hlen := HLen.out
                        have hpg : pageOk at_ = true := by
                          cases hp : pageOk at_ with
                          | true => rfl
                          | false => exact absurd ⟨by omega, hp⟩ HSh.out
                        obtain ⟨nums, hnums⟩ : ∃ nums, listNums at_ pages = nums := ⟨_, rfl⟩
                        have hchf : chainFrom at_ pages.tail = nums := by rw [← hnums]; unfold listNums; rw [if_pos (by omega)]
                        have hR := HR4.out
                        rw [hnums, if_neg (show ¬ pages.length = 1 by omega), if_neg (show ¬ pages.length = 2 by omega)] at hR
                        have HR := Lib.hid hR
                        have HNums := Lib.hid hchf
                        have HPg := Lib.hid hpg
                        have hl3 : 3 ≤ pages.length := by omega
                        clear hR HR4 hn1' hn2 hnums hchf hpg hlen
                        obtain ⟨i0, hi, hz0', hz1, hz2⟩ := info_parts (P := Tryd.prog) (e := 5) (z := .int .u8 0) (size := 1) (bytes := 1) (by kernel_rfl)
                        have Hi := Lib.hid hi
                        have Hz0 := Lib.hid hz0'
                        have Hz1 := Lib.hid hz1
                        have Hz2 := Lib.hid hz2
                        clear hi hz0' hz1 hz2
                        rename World => w9
                        have HOwn := Lib.hid (World.ownsRow_made (base := w9.heap.size) (e := 5) (size := 1) w9 #[] 0 (Nat.le_refl _) (Nat.zero_le _) rfl)
                        have hpc1 : ¬ pc = 1 := by omega
                        have hpc2 : 1 ≤ pc := by omega
                        go_wp2_with (at_builtin; refine wpList_append_any rfl _ _ 30 rfl w9.heap.size 5 i0 (.int .u8 0) 1 1 Tryd.underlying30 Hi.out Hz0.out Hz1.out Hz2.out rfl (by decide) _ _ _ rfl HOwn.out a bs.length c (bs.map (Value.int .u8)) rfl HAc.out ?q2 ?q3 ?q4 ?q5 ?q6 ?q7 ?_)
                        case q2 => simp
                        case q3 =>
                          intro ad had j' u hj'
                          obtain ⟨x, h1, rfl⟩ : ∃ x, bs[j']? = some x ∧ u = Value.int .u8 x := by
                            rw [List.getElem?_map, Option.map_eq_some_iff] at hj'
                            obtain ⟨x, h1, h2⟩ := hj'
                            exact ⟨x, h1, h2.symm⟩
                          have hjl : j' < bs.length := (List.getElem?_eq_some_iff.1 h1).1
                          rcases HRd.out w9 (Below.refl _ _) with h0 | ⟨db, doff, h2, h3⟩
                          · omega
                          · rw [h2] at had
                            cases had
                            have hcc := h3 j' hjl
                            refine Lib.cell?_alloc_some _ ?_
                            rw [WideShapes.add_plain, hcc]
                            simp [List.getD, h1]
                        case q4 => intro u hu; obtain ⟨x, _, rfl⟩ := List.mem_map.1 hu; rfl
                        case q5 => unfold maxLen; omega
                        case q6 => omega
                        case q7 => simp
                        intro v' w6 hown' hgrow hnil
                        have hb6 : Below w9.heap.size w9 w6 := ((Below.refl _ w9).alloc (Nat.le_refl _) _).grown hgrow (by simp) (fun k hk => by simp [Value.ownBlock] at hk; omega)
                        obtain ⟨g, cap, rfl, hg0⟩ : ∃ g cap, v' = .slice (some ⟨g, 0, none⟩) bs.length cap ∧ w9.heap.size ≤ g := by
                          rcases hown'.2 with ⟨e, _⟩ | ⟨g, cap, cur, e, h1, _⟩
                          · exact absurd (hnil e) (by simp)
                          · exact ⟨g, cap, by simpa using e, h1⟩
                        have HO6 : Hid (w6.ownsRow w9.heap.size 5 1 (.slice (some ⟨g, 0, none⟩) bs.length cap) bs.length ((splice bs at_.toNat (digs (nums.take 0))).map (Value.int .u8))) := by
                          show World.ownsRow _ _ _ _ _ _ _
                          rw [show splice bs at_.toNat (digs (nums.take 0)) = bs by simp [splice, digs]]
                          exact hown'
                        have HB6 := Lib.hid hb6
                        have htl : pages.drop 1 = pages.tail := by simp
                        have HCh0 : Hid (chainFrom (at_ + 8 * ((0 : Nat) : Int)) (pages.drop 1) = nums.drop 0) := by
                          show _ = _
                          rw [htl]; have := HNums.out; simpa using this
                        clear hown' hgrow hnil hb6 HOwn htl hc0
                        have hpg' := (pageOk_iff at_).1 HPg.out
                        have hat0 := hpg'.1
                        have HA8 : Hid (at_ % 64 = 0) := hpg'.2
                        clear hpg'
                        go_wp2_with fail
                        go_loopw [23, 24] (fun s23 s24 wr => ∃ (k r : Nat) (ra : Option Addr), s23 = .int .i64 (at_ + 8 * k) ∧ s24 = .slice ra (pages.length - r) (pc - r) ∧ RefPut bs at_ pages nums g cap w9 k r pb off ra wr) (fun s23 _ _ => (at_ + 8 * nums.length - intOf s23).toNat)
                        case atStart => exact ⟨0, 1, some ⟨pb, off + 1, none⟩, by simp, rfl, ⟨by omega, by omega, fun h => by omega, fun _ => rfl, HCh0.out, HO6.out, HB6.out⟩⟩
                        case round =>
                          obtain ⟨k, r, ra, rfl, rfl, hi⟩ := hrel
                          have HIv := Lib.hid hi
                          have hr1 := hi.r1
                          have hrl := hi.rl
                          have hsz := hi.bel.size
                          have hfit := hi.fit
                          clear hi
                          have hat64 : at_ ≤ 9223372036854775744 := by have := HA8.out; omega
                          have hput : at_ + 8 * (k : Int) ≤ 9223372036854775744 := by
                            by_cases h0 : k = 0
                            · omega
                            · have := hfit (by omega); omega
                          obtain ⟨pt, hpt⟩ : ∃ pt : Nat, at_ + 8 * (k : Int) = pt := ⟨(at_ + 8 * (k : Int)).toNat, by omega⟩
                          have ek : at_ + 8 * ((k + 1 : Nat) : Int) = (pt : Int) + 8 := by omega
                          rw [hpt]
                          rw [hpt] at hput
                          by_cases hrn : r < pages.length
                          · have hrae := HIv.out.adr hrn
                            subst hrae
                            have hch := HIv.out.chain
                            rw [hpt, drop_cons_getD pages r hrn] at hch
                            have hcx := HCw.out wr HIv.out.bel r hrn
                            have hmem : pages.getD r 0 ∈ pages := by simp [List.getD, hrn]
                            have hwx := HWf.out _ hmem
                            have hpx := (pageOk_iff _).1 (List.all_eq_true.1 HAll.out _ hmem)
                            have hkn : k < nums.length := by
                              have h1 : nums.drop k ≠ [] := by
                                rw [← hch]
                                cases hd : pages.drop (r + 1) with
                                | nil => simp [chainFrom]
                                | cons y t => rw [chainFrom]; split <;> simp
                              have := List.length_pos_iff.2 h1
                              simp at this; omega
                            have hnk : nums.drop k = nums.getD k 0 :: nums.drop (k + 1) := drop_cons_getD nums k hkn
                            rw [hnk] at hch
                            obtain ⟨nx, hnx⟩ : ∃ nx, nums.getD k 0 = nx := ⟨_, rfl⟩
                            rw [hnx] at hch
                            have HNx := Lib.hid hnx
                            have hli : (0 : Int) < ((pages.length - r : Nat) : Int) := by omega
                            have hli2 : 0 < pages.length - r := by omega
                            have hcases : ((((pt : Int) % 64 == 56) = true ∧ decide ((1 : Int) < ((pages.length - r : Nat) : Int)) = true) ∧ nx = (pt : Int) + 8 ∧ chainFrom ((pt : Int) + 8) (pages.drop r) = nums.drop (k + 1)) ∨
                                (((((pt : Int) % 64 == 56) = true ∧ decide ((1 : Int) < ((pages.length - r : Nat) : Int)) = false) ∨ ((pt : Int) % 64 == 56) = false) ∧ nx = pages.getD r 0 ∧ chainFrom ((pt : Int) + 8) (pages.drop (r + 1)) = nums.drop (k + 1)) := by
                              cases hd : pages.drop (r + 1) with
                              | nil =>
                                rw [hd, chainFrom_one] at hch
                                have hl : pages.length - (r + 1) = 0 := by rw [← List.length_drop, hd]; rfl
                                simp only [List.cons.injEq] at hch
                                refine .inr ⟨?_, hch.1.symm, ?_⟩
                                · by_cases h56 : (pt : Int) % 64 = 56
                                  · exact .inl ⟨by simp; omega, decide_eq_false (by omega)⟩
                                  · exact .inr (by simp; omega)
                                · rw [← hch.2]; rfl
                              | cons y t =>
                                rw [hd] at hch
                                have hl : pages.length - (r + 1) = t.length + 1 := by rw [← List.length_drop, hd]; rfl
                                by_cases h56 : (pt : Int) % 64 = 56
                                · rw [chainFrom_link _ _ _ _ h56] at hch
                                  simp only [List.cons.injEq] at hch
                                  refine .inl ⟨⟨by simp; omega, decide_eq_true (by omega)⟩, hch.1.symm, ?_⟩
                                  rw [drop_cons_getD pages r hrn, hd]; exact hch.2
                                · rw [chainFrom_step _ _ _ _ h56] at hch
                                  simp only [List.cons.injEq] at hch
                                  exact .inr ⟨.inr (by simp; omega), hch.1.symm, hch.2⟩
                            have HPt := Lib.hid hpt
                            have HEk := Lib.hid ek
                            clear hch hnk hnx hmem hpt ek
                            generalize pages.getD r 0 = x at *
                            have hptb : (pt : Int) ≤ 9223372036854775744 := hput
                            have HF := Lib.hid (ref_fits bs.length pt 8 wr hL (by omega) (by omega) (by omega) (by omega))
                            have hcr : 1 ≤ pc - r := by omega
                            have hcr2 : (1 : Int) ≤ ((pages.length - r : Nat) : Int) := by omega
                            have hcr3 : 1 ≤ pages.length - r := by omega
                            have HRn := Lib.hid hrn
                            cases hf : memFits bs.length pt 8 with
                            | false =>
                              rw [hf] at HF
                              have hfa := fitsAll_no hat0 hkn (by rw [HPt.out]; exact hf)
                              have HRr := Lib.hid (show R = ⟨0, 0, bs, 1⟩ by rw [← HR.out, if_pos ⟨by omega, hfa⟩])
                              have HEnd : Hid (BuildOfEnd R bs.length w9 (.returned (.tuple #[.int .i64 0, .int .i64 0, .slice a bs.length c, .int .i64 1])) wr) := by
                                rw [HRr.out]
                                exact ⟨a, c, rfl, rfl, HRd.out wr HIv.out.bel, HIv.out.bel⟩
                              clear hf hfa hfit hrn
                              rcases hcases with ⟨⟨g1, g2⟩, _, _⟩ | ⟨⟨g1, g2⟩ | g1, _, _⟩
                              all_goals by_cases hcap1 : pc - r = 1
                              all_goals
                                go_wp2_with fail
                                refine HF.out.mono ?_
                                rintro e w' ⟨rfl, rfl⟩
                                clear HF hcx
                                go_wp2
                                exact bodyPost_ret (v := .tuple #[.int .i64 0, .int .i64 0, .slice a bs.length c, .int .i64 1]) (by simp [results, Tryd.results27, go_sem]) rfl HEnd.out
                            | true =>
                              rw [hf] at HF
                              have hfm := (memFits_iff _ _ _).1 hf
                              have hpL : pt + 8 ≤ bs.length := by omega
                              have hpk : pt = at_.toNat + 8 * k := by have := HPt.out; omega
                              have hnx0 : 0 ≤ nx ∧ nx ≤ 9223372036854775807 := by rcases hcases with ⟨_, e, _⟩ | ⟨_, e, _⟩ <;> omega
                              have HE := Lib.hid (ref_eight nx wr hnx0.1 hnx0.2)
                              have hdl : (digs (nums.take k)).length = 8 * k := by rw [digs_length]; simp; omega
                              have hsl0 : Hid ((splice bs at_.toNat (digs (nums.take k))).length = bs.length) := length_splice _ _ _ (by omega)
                              have hsm : Hid (splice (splice bs at_.toNat (digs (nums.take k))) pt (leDig 8 nx) = splice bs at_.toNat (digs (nums.take (k + 1)))) := by
                                show splice _ _ _ = _
                                rw [digs_take nums k hkn, HNx.out, ← splice_more bs (digs (nums.take k)) _ at_.toNat (by rw [hdl, leDig_length]; omega), hdl, ← hpk]
                              clear hf hfm hdl hpk hfit hrn
                              rcases hcases with ⟨⟨g1, g2⟩, e, hch⟩ | ⟨hg, e, hch⟩
                              · have E := Lib.hid e
                                have HCh2 := Lib.hid hch
                                clear e hch
                                go_wp2_with fail
                                refine HF.out.mono ?_
                                rintro e w' ⟨rfl, rfl⟩
                                go_wp2_with fail
                                refine (calls_cast1 HE.out (by have := E.out; omega)).mono ?_
                                rintro e w7 ⟨v7, rfl, hE⟩
                                obtain ⟨gy, cy, rfl, hgy⟩ := own_form hE.1 (by omega)
                                have HOy := Lib.hid hE.1
                                have HO7 := Lib.hid (own_below HIv.out.own hE.2)
                                have hggy : gy ≠ g := by have := (HIv.out.own.lt g rfl).2; omega
                                have hgyl := (hE.1.lt gy rfl).2
                                have HB7 := Lib.hid (HIv.out.bel.trans (hE.2.mono hsz))
                                have hg9 := (HIv.out.own.lt g rfl).1
                                clear hE HE HF hcx
                                go_wp2_with fail
                                go_loopw [27] (fun i wr => ∃ m : Nat, m ≤ 8 ∧ i = .int .i64 m ∧ wr.ownsRow w9.heap.size 5 1 (.slice (some ⟨g, 0, none⟩) bs.length cap) bs.length ((splice (splice bs at_.toNat (digs (nums.take k))) pt ((leDig 8 nx).take m)).map (Value.int .u8)) ∧ Keep (· = g) w7 wr) (fun i _ => 8 - (intOf i).toNat)
                                case atStart => exact ⟨0, by omega, rfl, by simpa [splice] using HO7.out, Keep.refl _ _⟩
                                case round =>
                                  obtain ⟨m, hm8, rfl, how, hkp⟩ := hrel
                                  have HOw := Lib.hid how
                                  have HKp := Lib.hid hkp
                                  clear how hkp
                                  by_cases hm : m < 8
                                  · have y1 : wr.cell? ⟨gy, m, none⟩ = some (.int .u8 ((leDig 8 nx).getD m 0)) := by
                                      rw [HKp.out.cell (p := ⟨gy, m, none⟩) hgyl hggy, HOy.out.cellAt m (by omega)]
                                      simp [List.getD, show m < (leDig 8 nx).length by rw [leDig_length]; exact hm]
                                    have hsl : (splice (splice bs at_.toNat (digs (nums.take k))) pt ((leDig 8 nx).take m)).length = bs.length := by
                                      rw [length_splice _ _ _ (by rw [show (splice bs at_.toNat (digs (nums.take k))).length = bs.length from hsl0, List.length_take, leDig_length]; omega), hsl0.out]
                                    have hltm : pt + m < (splice (splice bs at_.toNat (digs (nums.take k))) pt ((leDig 8 nx).take m)).length := by rw [hsl]; omega
                                    have y2 : ∃ o, wr.cell? ⟨g, pt + m, none⟩ = some o := ⟨_, by
                                      rw [HOw.out.cellAt (pt + m) (by omega), List.getElem?_map, List.getElem?_eq_getElem hltm]; rfl⟩
                                    obtain ⟨o, y2⟩ := y2
                                    have f2 := HOw.out.frozenAt (pt + m)
                                    have hst := (HOw.out.stored (pt + m) (.int .u8 ((leDig 8 nx).getD m 0))).1
                                    have hset : (((splice (splice bs at_.toNat (digs (nums.take k))) pt ((leDig 8 nx).take m)).map (Value.int .u8)).set (pt + m) (.int .u8 ((leDig 8 nx).getD m 0))) = ((splice (splice bs at_.toNat (digs (nums.take k))) pt ((leDig 8 nx).take (m + 1))).map (Value.int .u8)) := by
                                      rw [← splice_set _ pt (leDig 8 nx) m (by rw [leDig_length]; exact hm) (by rw [show (splice bs at_.toNat (digs (nums.take k))).length = bs.length from hsl0]; omega)]
                                      simp [List.map_set]
                                    rw [hset] at hst
                                    have HSt := Lib.hid hst
                                    have hw : IntKind.i64.wrap ((pt : Int) + (m : Int)) = (pt : Int) + (m : Int) := IntWalk.i64_in _ (by omega)
                                    have hpm : pt + m < bs.length := by omega
                                    clear hst hset hsl hltm
                                    generalize (leDig 8 nx).getD m 0 = ym at *
                                    go_wp2
                                    go_roundw
                                    case rel => exact ⟨m + 1, by omega, by go_num, HSt.out, HKp.out.setCell (p := ⟨g, pt + m, none⟩) (.inl rfl) _⟩
                                    case measure => simp [intOf]; omega
                                  · obtain rfl : m = 8 := by omega
                                    have how := HOw.out
                                    rw [show (leDig 8 nx).take 8 = leDig 8 nx from List.take_of_length_le (by rw [leDig_length]; omega), hsm.out] at how
                                    have HOx := Lib.hid how
                                    have HBx := Lib.hid (HB7.out.trans (HKp.out.below w9.heap.size HB7.out.size (fun q h => by omega)))
                                    clear how
                                    go_wp2
                                    go_roundw
                                    case rel => exact ⟨k + 1, r, some ⟨pb, off + r, none⟩, by rw [HEk.out], rfl, ⟨hr1, hrl, fun _ => by have := HPt.out; omega, fun _ => rfl, by rw [HEk.out]; exact HCh2.out, HOx.out, HBx.out⟩⟩
                                    case measure => (simp only [intOf]; have := HPt.out; omega)
                              · have hgg : (((pt : Int) % 64 == 56) = true ∧ decide ((1 : Int) < ((pages.length - r : Nat) : Int)) = false) ∨ ((pt : Int) % 64 == 56) = false := hg
                                clear hg
                                have HAdr : Hid (¬ pc - r = 1 → ∀ _ : r + 1 < pages.length, (some ⟨pb, off + r + 1, none⟩ : Option Addr) = some ⟨pb, off + (r + 1), none⟩) := fun _ _ => by rw [Nat.add_assoc]
                                have HNo : Hid (pc - r = 1 → ¬ r + 1 < pages.length) := fun h1 h2 => by omega
                                rcases hgg with ⟨g1, g2⟩ | g1
                                all_goals by_cases hcap1 : pc - r = 1
                                · have E := Lib.hid e
                                  have hcap := Lib.hid hcap1
                                  have HCh2 := Lib.hid hch
                                  clear e hch
                                  go_wp2_with fail
                                  refine HF.out.mono ?_
                                  rintro e w' ⟨rfl, rfl⟩
                                  go_wp2_with fail
                                  refine (calls_cast1 HE.out (by have := E.out; omega)).mono ?_
                                  rintro e w7 ⟨v7, rfl, hE⟩
                                  obtain ⟨gy, cy, rfl, hgy⟩ := own_form hE.1 (by omega)
                                  have HOy := Lib.hid hE.1
                                  have HO7 := Lib.hid (own_below HIv.out.own hE.2)
                                  have hggy : gy ≠ g := by have := (HIv.out.own.lt g rfl).2; omega
                                  have hgyl := (hE.1.lt gy rfl).2
                                  have HB7 := Lib.hid (HIv.out.bel.trans (hE.2.mono hsz))
                                  have hg9 := (HIv.out.own.lt g rfl).1
                                  clear hE HE HF hcx
                                  go_wp2_with fail
                                  go_loopw [27] (fun i wr => ∃ m : Nat, m ≤ 8 ∧ i = .int .i64 m ∧ wr.ownsRow w9.heap.size 5 1 (.slice (some ⟨g, 0, none⟩) bs.length cap) bs.length ((splice (splice bs at_.toNat (digs (nums.take k))) pt ((leDig 8 nx).take m)).map (Value.int .u8)) ∧ Keep (· = g) w7 wr) (fun i _ => 8 - (intOf i).toNat)
                                  case atStart => exact ⟨0, by omega, rfl, by simpa [splice] using HO7.out, Keep.refl _ _⟩
                                  case round =>
                                    obtain ⟨m, hm8, rfl, how, hkp⟩ := hrel
                                    have HOw := Lib.hid how
                                    have HKp := Lib.hid hkp
                                    clear how hkp
                                    by_cases hm : m < 8
                                    · have y1 : wr.cell? ⟨gy, m, none⟩ = some (.int .u8 ((leDig 8 nx).getD m 0)) := by
                                        rw [HKp.out.cell (p := ⟨gy, m, none⟩) hgyl hggy, HOy.out.cellAt m (by omega)]
                                        simp [List.getD, show m < (leDig 8 nx).length by rw [leDig_length]; exact hm]
                                      have hsl : (splice (splice bs at_.toNat (digs (nums.take k))) pt ((leDig 8 nx).take m)).length = bs.length := by
                                        rw [length_splice _ _ _ (by rw [show (splice bs at_.toNat (digs (nums.take k))).length = bs.length from hsl0, List.length_take, leDig_length]; omega), hsl0.out]
                                      have hltm : pt + m < (splice (splice bs at_.toNat (digs (nums.take k))) pt ((leDig 8 nx).take m)).length := by rw [hsl]; omega
                                      have y2 : ∃ o, wr.cell? ⟨g, pt + m, none⟩ = some o := ⟨_, by
                                        rw [HOw.out.cellAt (pt + m) (by omega), List.getElem?_map, List.getElem?_eq_getElem hltm]; rfl⟩
                                      obtain ⟨o, y2⟩ := y2
                                      have f2 := HOw.out.frozenAt (pt + m)
                                      have hst := (HOw.out.stored (pt + m) (.int .u8 ((leDig 8 nx).getD m 0))).1
                                      have hset : (((splice (splice bs at_.toNat (digs (nums.take k))) pt ((leDig 8 nx).take m)).map (Value.int .u8)).set (pt + m) (.int .u8 ((leDig 8 nx).getD m 0))) = ((splice (splice bs at_.toNat (digs (nums.take k))) pt ((leDig 8 nx).take (m + 1))).map (Value.int .u8)) := by
                                        rw [← splice_set _ pt (leDig 8 nx) m (by rw [leDig_length]; exact hm) (by rw [show (splice bs at_.toNat (digs (nums.take k))).length = bs.length from hsl0]; omega)]
                                        simp [List.map_set]
                                      rw [hset] at hst
                                      have HSt := Lib.hid hst
                                      have hw : IntKind.i64.wrap ((pt : Int) + (m : Int)) = (pt : Int) + (m : Int) := IntWalk.i64_in _ (by omega)
                                      have hpm : pt + m < bs.length := by omega
                                      clear hst hset hsl hltm
                                      generalize (leDig 8 nx).getD m 0 = ym at *
                                      go_wp2
                                      go_roundw
                                      case rel => exact ⟨m + 1, by omega, by go_num, HSt.out, HKp.out.setCell (p := ⟨g, pt + m, none⟩) (.inl rfl) _⟩
                                      case measure => simp [intOf]; omega
                                    · obtain rfl : m = 8 := by omega
                                      have how := HOw.out
                                      rw [show (leDig 8 nx).take 8 = leDig 8 nx from List.take_of_length_le (by rw [leDig_length]; omega), hsm.out] at how
                                      have HOx := Lib.hid how
                                      have HBx := Lib.hid (HB7.out.trans (HKp.out.below w9.heap.size HB7.out.size (fun q h => by omega)))
                                      clear how
                                      go_wp2
                                      go_roundw
                                      case rel => exact ⟨k + 1, r + 1, some ⟨pb, off + r, none⟩, by rw [HEk.out], by first | (rw [Nat.sub_add_eq, Nat.sub_add_eq]; done) | (rw [Nat.sub_add_eq, show pc - (r + 1) = 0 by omega]), ⟨by omega, HRn.out, fun _ => by have := HPt.out; omega, fun h => absurd h (HNo.out hcap.out), by rw [HEk.out]; exact HCh2.out, HOx.out, HBx.out⟩⟩
                                      case measure => (simp only [intOf]; have := HPt.out; omega)
                                · have E := Lib.hid e
                                  have HCh2 := Lib.hid hch
                                  clear e hch
                                  go_wp2_with fail
                                  refine HF.out.mono ?_
                                  rintro e w' ⟨rfl, rfl⟩
                                  go_wp2_with fail
                                  refine (calls_cast1 HE.out (by have := E.out; omega)).mono ?_
                                  rintro e w7 ⟨v7, rfl, hE⟩
                                  obtain ⟨gy, cy, rfl, hgy⟩ := own_form hE.1 (by omega)
                                  have HOy := Lib.hid hE.1
                                  have HO7 := Lib.hid (own_below HIv.out.own hE.2)
                                  have hggy : gy ≠ g := by have := (HIv.out.own.lt g rfl).2; omega
                                  have hgyl := (hE.1.lt gy rfl).2
                                  have HB7 := Lib.hid (HIv.out.bel.trans (hE.2.mono hsz))
                                  have hg9 := (HIv.out.own.lt g rfl).1
                                  clear hE HE HF hcx
                                  go_wp2_with fail
                                  go_loopw [27] (fun i wr => ∃ m : Nat, m ≤ 8 ∧ i = .int .i64 m ∧ wr.ownsRow w9.heap.size 5 1 (.slice (some ⟨g, 0, none⟩) bs.length cap) bs.length ((splice (splice bs at_.toNat (digs (nums.take k))) pt ((leDig 8 nx).take m)).map (Value.int .u8)) ∧ Keep (· = g) w7 wr) (fun i _ => 8 - (intOf i).toNat)
                                  case atStart => exact ⟨0, by omega, rfl, by simpa [splice] using HO7.out, Keep.refl _ _⟩
                                  case round =>
                                    obtain ⟨m, hm8, rfl, how, hkp⟩ := hrel
                                    have HOw := Lib.hid how
                                    have HKp := Lib.hid hkp
                                    clear how hkp
                                    by_cases hm : m < 8
                                    · have y1 : wr.cell? ⟨gy, m, none⟩ = some (.int .u8 ((leDig 8 nx).getD m 0)) := by
                                        rw [HKp.out.cell (p := ⟨gy, m, none⟩) hgyl hggy, HOy.out.cellAt m (by omega)]
                                        simp [List.getD, show m < (leDig 8 nx).length by rw [leDig_length]; exact hm]
                                      have hsl : (splice (splice bs at_.toNat (digs (nums.take k))) pt ((leDig 8 nx).take m)).length = bs.length := by
                                        rw [length_splice _ _ _ (by rw [show (splice bs at_.toNat (digs (nums.take k))).length = bs.length from hsl0, List.length_take, leDig_length]; omega), hsl0.out]
                                      have hltm : pt + m < (splice (splice bs at_.toNat (digs (nums.take k))) pt ((leDig 8 nx).take m)).length := by rw [hsl]; omega
                                      have y2 : ∃ o, wr.cell? ⟨g, pt + m, none⟩ = some o := ⟨_, by
                                        rw [HOw.out.cellAt (pt + m) (by omega), List.getElem?_map, List.getElem?_eq_getElem hltm]; rfl⟩
                                      obtain ⟨o, y2⟩ := y2
                                      have f2 := HOw.out.frozenAt (pt + m)
                                      have hst := (HOw.out.stored (pt + m) (.int .u8 ((leDig 8 nx).getD m 0))).1
                                      have hset : (((splice (splice bs at_.toNat (digs (nums.take k))) pt ((leDig 8 nx).take m)).map (Value.int .u8)).set (pt + m) (.int .u8 ((leDig 8 nx).getD m 0))) = ((splice (splice bs at_.toNat (digs (nums.take k))) pt ((leDig 8 nx).take (m + 1))).map (Value.int .u8)) := by
                                        rw [← splice_set _ pt (leDig 8 nx) m (by rw [leDig_length]; exact hm) (by rw [show (splice bs at_.toNat (digs (nums.take k))).length = bs.length from hsl0]; omega)]
                                        simp [List.map_set]
                                      rw [hset] at hst
                                      have HSt := Lib.hid hst
                                      have hw : IntKind.i64.wrap ((pt : Int) + (m : Int)) = (pt : Int) + (m : Int) := IntWalk.i64_in _ (by omega)
                                      have hpm : pt + m < bs.length := by omega
                                      clear hst hset hsl hltm
                                      generalize (leDig 8 nx).getD m 0 = ym at *
                                      go_wp2
                                      go_roundw
                                      case rel => exact ⟨m + 1, by omega, by go_num, HSt.out, HKp.out.setCell (p := ⟨g, pt + m, none⟩) (.inl rfl) _⟩
                                      case measure => simp [intOf]; omega
                                    · obtain rfl : m = 8 := by omega
                                      have how := HOw.out
                                      rw [show (leDig 8 nx).take 8 = leDig 8 nx from List.take_of_length_le (by rw [leDig_length]; omega), hsm.out] at how
                                      have HOx := Lib.hid how
                                      have HBx := Lib.hid (HB7.out.trans (HKp.out.below w9.heap.size HB7.out.size (fun q h => by omega)))
                                      clear how
                                      go_wp2
                                      go_roundw
                                      case rel => exact ⟨k + 1, r + 1, some ⟨pb, off + r + 1, none⟩, by rw [HEk.out], by first | (rw [Nat.sub_add_eq, Nat.sub_add_eq]; done) | (rw [Nat.sub_add_eq, show pc - (r + 1) = 0 by omega]), ⟨by omega, HRn.out, fun _ => by have := HPt.out; omega, fun h => by rw [Nat.add_assoc], by rw [HEk.out]; exact HCh2.out, HOx.out, HBx.out⟩⟩
                                      case measure => (simp only [intOf]; have := HPt.out; omega)
                                · have E := Lib.hid e
                                  have hcap := Lib.hid hcap1
                                  have HCh2 := Lib.hid hch
                                  clear e hch
                                  go_wp2_with fail
                                  refine HF.out.mono ?_
                                  rintro e w' ⟨rfl, rfl⟩
                                  go_wp2_with fail
                                  refine (calls_cast1 HE.out (by have := E.out; omega)).mono ?_
                                  rintro e w7 ⟨v7, rfl, hE⟩
                                  obtain ⟨gy, cy, rfl, hgy⟩ := own_form hE.1 (by omega)
                                  have HOy := Lib.hid hE.1
                                  have HO7 := Lib.hid (own_below HIv.out.own hE.2)
                                  have hggy : gy ≠ g := by have := (HIv.out.own.lt g rfl).2; omega
                                  have hgyl := (hE.1.lt gy rfl).2
                                  have HB7 := Lib.hid (HIv.out.bel.trans (hE.2.mono hsz))
                                  have hg9 := (HIv.out.own.lt g rfl).1
                                  clear hE HE HF hcx
                                  go_wp2_with fail
                                  go_loopw [27] (fun i wr => ∃ m : Nat, m ≤ 8 ∧ i = .int .i64 m ∧ wr.ownsRow w9.heap.size 5 1 (.slice (some ⟨g, 0, none⟩) bs.length cap) bs.length ((splice (splice bs at_.toNat (digs (nums.take k))) pt ((leDig 8 nx).take m)).map (Value.int .u8)) ∧ Keep (· = g) w7 wr) (fun i _ => 8 - (intOf i).toNat)
                                  case atStart => exact ⟨0, by omega, rfl, by simpa [splice] using HO7.out, Keep.refl _ _⟩
                                  case round =>
                                    obtain ⟨m, hm8, rfl, how, hkp⟩ := hrel
                                    have HOw := Lib.hid how
                                    have HKp := Lib.hid hkp
                                    clear how hkp
                                    by_cases hm : m < 8
                                    · have y1 : wr.cell? ⟨gy, m, none⟩ = some (.int .u8 ((leDig 8 nx).getD m 0)) := by
                                        rw [HKp.out.cell (p := ⟨gy, m, none⟩) hgyl hggy, HOy.out.cellAt m (by omega)]
                                        simp [List.getD, show m < (leDig 8 nx).length by rw [leDig_length]; exact hm]
                                      have hsl : (splice (splice bs at_.toNat (digs (nums.take k))) pt ((leDig 8 nx).take m)).length = bs.length := by
                                        rw [length_splice _ _ _ (by rw [show (splice bs at_.toNat (digs (nums.take k))).length = bs.length from hsl0, List.length_take, leDig_length]; omega), hsl0.out]
                                      have hltm : pt + m < (splice (splice bs at_.toNat (digs (nums.take k))) pt ((leDig 8 nx).take m)).length := by rw [hsl]; omega
                                      have y2 : ∃ o, wr.cell? ⟨g, pt + m, none⟩ = some o := ⟨_, by
                                        rw [HOw.out.cellAt (pt + m) (by omega), List.getElem?_map, List.getElem?_eq_getElem hltm]; rfl⟩
                                      obtain ⟨o, y2⟩ := y2
                                      have f2 := HOw.out.frozenAt (pt + m)
                                      have hst := (HOw.out.stored (pt + m) (.int .u8 ((leDig 8 nx).getD m 0))).1
                                      have hset : (((splice (splice bs at_.toNat (digs (nums.take k))) pt ((leDig 8 nx).take m)).map (Value.int .u8)).set (pt + m) (.int .u8 ((leDig 8 nx).getD m 0))) = ((splice (splice bs at_.toNat (digs (nums.take k))) pt ((leDig 8 nx).take (m + 1))).map (Value.int .u8)) := by
                                        rw [← splice_set _ pt (leDig 8 nx) m (by rw [leDig_length]; exact hm) (by rw [show (splice bs at_.toNat (digs (nums.take k))).length = bs.length from hsl0]; omega)]
                                        simp [List.map_set]
                                      rw [hset] at hst
                                      have HSt := Lib.hid hst
                                      have hw : IntKind.i64.wrap ((pt : Int) + (m : Int)) = (pt : Int) + (m : Int) := IntWalk.i64_in _ (by omega)
                                      have hpm : pt + m < bs.length := by omega
                                      clear hst hset hsl hltm
                                      generalize (leDig 8 nx).getD m 0 = ym at *
                                      go_wp2
                                      go_roundw
                                      case rel => exact ⟨m + 1, by omega, by go_num, HSt.out, HKp.out.setCell (p := ⟨g, pt + m, none⟩) (.inl rfl) _⟩
                                      case measure => simp [intOf]; omega
                                    · obtain rfl : m = 8 := by omega
                                      have how := HOw.out
                                      rw [show (leDig 8 nx).take 8 = leDig 8 nx from List.take_of_length_le (by rw [leDig_length]; omega), hsm.out] at how
                                      have HOx := Lib.hid how
                                      have HBx := Lib.hid (HB7.out.trans (HKp.out.below w9.heap.size HB7.out.size (fun q h => by omega)))
                                      clear how
                                      go_wp2
                                      go_roundw
                                      case rel => exact ⟨k + 1, r + 1, some ⟨pb, off + r, none⟩, by rw [HEk.out], by first | (rw [Nat.sub_add_eq, Nat.sub_add_eq]; done) | (rw [Nat.sub_add_eq, show pc - (r + 1) = 0 by omega]), ⟨by omega, HRn.out, fun _ => by have := HPt.out; omega, fun h => absurd h (HNo.out hcap.out), by rw [HEk.out]; exact HCh2.out, HOx.out, HBx.out⟩⟩
                                      case measure => (simp only [intOf]; have := HPt.out; omega)
                                · have E := Lib.hid e
                                  have HCh2 := Lib.hid hch
                                  clear e hch
                                  go_wp2_with fail
                                  refine HF.out.mono ?_
                                  rintro e w' ⟨rfl, rfl⟩
                                  go_wp2_with fail
                                  refine (calls_cast1 HE.out (by have := E.out; omega)).mono ?_
                                  rintro e w7 ⟨v7, rfl, hE⟩
                                  obtain ⟨gy, cy, rfl, hgy⟩ := own_form hE.1 (by omega)
                                  have HOy := Lib.hid hE.1
                                  have HO7 := Lib.hid (own_below HIv.out.own hE.2)
                                  have hggy : gy ≠ g := by have := (HIv.out.own.lt g rfl).2; omega
                                  have hgyl := (hE.1.lt gy rfl).2
                                  have HB7 := Lib.hid (HIv.out.bel.trans (hE.2.mono hsz))
                                  have hg9 := (HIv.out.own.lt g rfl).1
                                  clear hE HE HF hcx
                                  go_wp2_with fail
                                  go_loopw [27] (fun i wr => ∃ m : Nat, m ≤ 8 ∧ i = .int .i64 m ∧ wr.ownsRow w9.heap.size 5 1 (.slice (some ⟨g, 0, none⟩) bs.length cap) bs.length ((splice (splice bs at_.toNat (digs (nums.take k))) pt ((leDig 8 nx).take m)).map (Value.int .u8)) ∧ Keep (· = g) w7 wr) (fun i _ => 8 - (intOf i).toNat)
                                  case atStart => exact ⟨0, by omega, rfl, by simpa [splice] using HO7.out, Keep.refl _ _⟩
                                  case round =>
                                    obtain ⟨m, hm8, rfl, how, hkp⟩ := hrel
                                    have HOw := Lib.hid how
                                    have HKp := Lib.hid hkp
                                    clear how hkp
                                    by_cases hm : m < 8
                                    · have y1 : wr.cell? ⟨gy, m, none⟩ = some (.int .u8 ((leDig 8 nx).getD m 0)) := by
                                        rw [HKp.out.cell (p := ⟨gy, m, none⟩) hgyl hggy, HOy.out.cellAt m (by omega)]
                                        simp [List.getD, show m < (leDig 8 nx).length by rw [leDig_length]; exact hm]
                                      have hsl : (splice (splice bs at_.toNat (digs (nums.take k))) pt ((leDig 8 nx).take m)).length = bs.length := by
                                        rw [length_splice _ _ _ (by rw [show (splice bs at_.toNat (digs (nums.take k))).length = bs.length from hsl0, List.length_take, leDig_length]; omega), hsl0.out]
                                      have hltm : pt + m < (splice (splice bs at_.toNat (digs (nums.take k))) pt ((leDig 8 nx).take m)).length := by rw [hsl]; omega
                                      have y2 : ∃ o, wr.cell? ⟨g, pt + m, none⟩ = some o := ⟨_, by
                                        rw [HOw.out.cellAt (pt + m) (by omega), List.getElem?_map, List.getElem?_eq_getElem hltm]; rfl⟩
                                      obtain ⟨o, y2⟩ := y2
                                      have f2 := HOw.out.frozenAt (pt + m)
                                      have hst := (HOw.out.stored (pt + m) (.int .u8 ((leDig 8 nx).getD m 0))).1
                                      have hset : (((splice (splice bs at_.toNat (digs (nums.take k))) pt ((leDig 8 nx).take m)).map (Value.int .u8)).set (pt + m) (.int .u8 ((leDig 8 nx).getD m 0))) = ((splice (splice bs at_.toNat (digs (nums.take k))) pt ((leDig 8 nx).take (m + 1))).map (Value.int .u8)) := by
                                        rw [← splice_set _ pt (leDig 8 nx) m (by rw [leDig_length]; exact hm) (by rw [show (splice bs at_.toNat (digs (nums.take k))).length = bs.length from hsl0]; omega)]
                                        simp [List.map_set]
                                      rw [hset] at hst
                                      have HSt := Lib.hid hst
                                      have hw : IntKind.i64.wrap ((pt : Int) + (m : Int)) = (pt : Int) + (m : Int) := IntWalk.i64_in _ (by omega)
                                      have hpm : pt + m < bs.length := by omega
                                      clear hst hset hsl hltm
                                      generalize (leDig 8 nx).getD m 0 = ym at *
                                      go_wp2
                                      go_roundw
                                      case rel => exact ⟨m + 1, by omega, by go_num, HSt.out, HKp.out.setCell (p := ⟨g, pt + m, none⟩) (.inl rfl) _⟩
                                      case measure => simp [intOf]; omega
                                    · obtain rfl : m = 8 := by omega
                                      have how := HOw.out
                                      rw [show (leDig 8 nx).take 8 = leDig 8 nx from List.take_of_length_le (by rw [leDig_length]; omega), hsm.out] at how
                                      have HOx := Lib.hid how
                                      have HBx := Lib.hid (HB7.out.trans (HKp.out.below w9.heap.size HB7.out.size (fun q h => by omega)))
                                      clear how
                                      go_wp2
                                      go_roundw
                                      case rel => exact ⟨k + 1, r + 1, some ⟨pb, off + r + 1, none⟩, by rw [HEk.out], by first | (rw [Nat.sub_add_eq, Nat.sub_add_eq]; done) | (rw [Nat.sub_add_eq, show pc - (r + 1) = 0 by omega]), ⟨by omega, HRn.out, fun _ => by have := HPt.out; omega, fun h => by rw [Nat.add_assoc], by rw [HEk.out]; exact HCh2.out, HOx.out, HBx.out⟩⟩
                                      case measure => (simp only [intOf]; have := HPt.out; omega)
                          · obtain rfl : r = pages.length := by omega
                            have hch := HIv.out.chain
                            rw [List.drop_length] at hch
                            have hkn : nums.length ≤ k := by
                              have h1 : (nums.drop k).length = 0 := by rw [← hch]; rfl
                              simp at h1; omega
                            have hnn : 0 < nums.length := by
                              rw [← HNums.out]
                              have htl : 2 ≤ pages.tail.length := by rw [List.length_tail]; omega
                              match hpt : pages.tail, htl with
                              | y :: z :: t, _ => rw [chainFrom]; split <;> simp
                            have hfa : memFits bs.length at_ (8 * nums.length) = true := (memFits_iff _ _ _).2 (by have := hfit (by omega); omega)
                            have hown := HIv.out.own
                            rw [List.take_of_length_le hkn] at hown
                            have HOwn := Lib.hid hown
                            have HRr := Lib.hid (show R = ⟨pages.getD 0 0 + offset, at_, splice bs at_.toNat (digs nums), 0⟩ by rw [← HR.out, if_neg (by rw [hfa]; rintro ⟨_, q⟩; cases q)])
                            have hspl : (splice bs at_.toNat (digs nums)).length = bs.length := length_splice _ _ _ (by rw [digs_length]; have := (memFits_iff _ _ _).1 hfa; omega)
                            have HSpl := Lib.hid hspl
                            have hc0 : wr.cell? ⟨pb, off, none⟩ = some (.int .i64 (pages.getD 0 0)) := by have := HCw.out wr HIv.out.bel 0 (by omega); simpa using this
                            have e0 : pages.length - pages.length = 0 := by omega
                            clear hch hkn hnn hfa hown hspl hfit hpt ek hrn
                            generalize pages.getD 0 0 = x0 at *
                            go_wp2
                            exact bodyPost_ret (v := .tuple #[.int .i64 (x0 + offset), .int .i64 at_, .slice (some ⟨g, 0, none⟩) bs.length cap, .int .i64 0]) (by simp [results, Tryd.results27, go_sem]) rfl (by
                              rw [HRr.out]
                              exact ⟨_, cap, rfl, HSpl.out, RdB.own (by rw [HSpl.out] at *; exact HOwn.out) rfl, HIv.out.bel⟩)
      · have dl : ((pages.length : Int) != (k : Int)) = true := by simp; omega
        have HR := Lib.hid (show R = ⟨0, 0, bs, 2⟩ by rw [← HR0.out, if_pos (.inr (by have := HNeed.out; omega))])
        clear hlen
        go_wp2
        exact bodyPost_ret (v := .tuple #[.int .i64 0, .int .i64 0, .slice a bs.length c, .int .i64 2]) (by simp [results, Tryd.results27, go_sem]) rfl (HFin.out 2 HR.out)
end Go.Proofs.YtnapgigemdmigaaDoor
