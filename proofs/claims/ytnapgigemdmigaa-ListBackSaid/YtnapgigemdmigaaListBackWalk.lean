/- granarylaw3.ListBack returns true, and writes nothing that was there. -/
import Derived.Test.YtnapgigemdmigaaListBackLaw
import Derived.Test.YtnapgigemdmigaaBuild
namespace Go.Proofs.Ytnapgigemdmigaa
open Go.RowKit Go.WideShapes
set_option linter.unusedVariables false

theorem IsRow.ints {w : World} {a : Option Addr} {len cap : Nat} {zs : List Int} (h : IsRow .i64 8 w a len cap zs) :
    ∃ ps : List Int, ps.length = len ∧ len * 8 ≤ 140737488351232 ∧ len ≤ cap ∧ (∀ x ∈ ps, -9223372036854775808 ≤ x ∧ x ≤ 9223372036854775807) ∧
      (len = 0 ∨ ∃ b off, a = some ⟨b, off, none⟩ ∧ b < w.heap.size ∧ ∀ w', Below w.heap.size w w' → ∀ i, i < len → w'.cell? ⟨b, off + i, none⟩ = some (.int .i64 (ps.getD i 0))) := by
  by_cases hl : 0 < len
  · obtain ⟨b, off, rfl, h1, h2, h3, h4, h5, h6⟩ := h.at hl
    refine ⟨zs.take len, by simp; omega, by omega, h1, ?_, .inr ⟨b, off, rfl, h4, fun w' hw i hi => ?_⟩⟩
    · intro x hx
      obtain ⟨i, hi, e⟩ := List.mem_iff_getElem.1 hx
      have hi' : i < len := by simp at hi; omega
      have := h6 i (by omega)
      have e2 : zs.getD i 0 = x := by
        rw [← e]; simp [List.getD, List.getElem?_eq_getElem (show i < zs.length by omega)]
      rw [e2] at this
      exact bounds_i64 this
    · rw [h5 w' hw i (by omega)]
      simp [List.getD, hi]
  · exact ⟨[], by simp; omega, by omega, by omega, by simp, .inl (by omega)⟩

theorem build_any (b mb : Nat) (bs : List Int) (at_ : Int) (a : Option Addr) (c : Nat) (offset long : Int) (pages : List Int) (w : World) (hm : MemAt w b mb bs) (hrd : NumsRd w mb a c pages) (a0 : -9223372036854775808 ≤ at_) (a1 : at_ ≤ 9223372036854775807)
    (hwf : ∀ x ∈ pages, -9223372036854775808 ≤ x ∧ x ≤ 9223372036854775807) (hn : pages.length ≤ 9223372036854775807) (o0 : -9223372036854775808 ≤ offset) (o1 : offset ≤ 9223372036854775807) (l0 : -9223372036854775808 ≤ long) (l1 : long ≤ 9223372036854775807) :
    Calls Try.prog 14 #[.pointer (some ⟨b, 0, none⟩), .int .i64 at_, .slice a pages.length c, .int .i64 offset, .int .i64 long] w (BuildEnd (buildRes bs at_ pages offset long) b mb w) := by
  by_cases h : long < 1 ∨ 2048 < long ∨ offset < 0 ∨ 60 < offset ∨ offset % 4 ≠ 0 ∨ (pages.length : Int) ≠ (offset + long + 63) / 64
  · exact build_early b mb bs at_ a pages.length c offset long w hm o0 o1 l0 l1 hn pages rfl h
  · exact build_late b mb bs at_ a c offset long pages w hm hrd a0 a1 hwf (by omega) (by omega) (by omega) (by omega) (by omega) (by omega)
theorem build_uv (bs : List Int) (at_ : Int) (pages : List Int) (offset long : Int) (h : (buildRes bs at_ pages offset long).e = 0) :
    (buildRes bs at_ pages offset long).u = pages.getD 0 0 + offset ∧ ((buildRes bs at_ pages offset long).v = 0 ∨ (buildRes bs at_ pages offset long).v = pages.getD 1 0 ∨ (buildRes bs at_ pages offset long).v = at_) ∧ ∀ x ∈ pages, pageOk x = true := by
  unfold buildRes at h ⊢
  split at h; · cases h
  split at h; · cases h
  split at h; · cases h
  split at h; · cases h
  split at h; · cases h
  split at h; · cases h
  next h1 h2 h3 h4 h5 h6 =>
  rw [if_neg h1, if_neg h2, if_neg h3, if_neg h4, if_neg h5, if_neg h6]
  refine ⟨rfl, ?_, by simpa using h3⟩
  show (if pages.length = 1 then (0 : Int) else if pages.length = 2 then pages.getD 1 0 else at_) = 0 ∨ _ ∨ _
  split
  · exact .inl rfl
  · split
    · exact .inr (.inl rfl)
    · exact .inr (.inr rfl)

def backByte (i : Int) : Int := (7 * i + 1) % 256
def backData (n : Nat) : List Int := (List.range n).map (fun i : Nat => backByte (i : Int))
theorem backData_succ (n : Nat) : backData (n + 1) = backData n ++ [backByte n] := by
  unfold backData
  rw [List.range_succ, List.map_append]; rfl
theorem backData_length (n : Nat) : (backData n).length = n := by simp [backData]

set_option maxRecDepth 100000 in
set_option maxHeartbeats 16000000 in
theorem listBack_walk (w : World) (a : Option Addr) (len cap : Nat) (z : List Int) (hz : IsRow .u8 1 w a len cap z) (at_ : Int) (a0 : -9223372036854775808 ≤ at_) (a1 : at_ ≤ 9223372036854775807)
    (a' : Option Addr) (len' cap' : Nat) (z' : List Int) (hz' : IsRow .i64 8 w a' len' cap' z') (offset : Int) (o0 : -9223372036854775808 ≤ offset) (o1 : offset ≤ 9223372036854775807) (long : Int) (l0 : -9223372036854775808 ≤ long) (l1 : long ≤ 9223372036854775807) :
    Calls Try.prog 6 #[.slice a len cap, .int .i64 at_, .slice a' len' cap', .int .i64 offset, .int .i64 long] w fun e w' => e = .returned (.bool true) ∧ Below w.heap.size w w' := by
  obtain ⟨xs, rfl, xl, xb, hx⟩ := hz.bytes
  obtain ⟨ps, rfl, pl, pcap, pb, hp⟩ := hz'.ints
  clear hz hz'
  have Xb := Lib.hid xb
  have Hx := Lib.hid hx
  have Pb := Lib.hid pb
  have Hp := Lib.hid hp
  clear xb hx pb hp
  by_cases hbig : 16384 < xs.length
  · have HF := Lib.hid (filled_big a xs.length cap w hbig (by omega))
    go_enter Try.func6, Try.ntmps6
    go_wp2_with fail
    refine HF.out.mono ?_
    rintro e w' ⟨rfl, rfl⟩
    have d1 : decide (16384 < (xs.length : Int)) = true := decide_eq_true (by omega)
    clear HF
    go_wp2
    go_ret
    exact ⟨rfl, Below.refl _ _⟩
  have HF := Lib.hid (filled_ok a cap xs w (by omega) (Hx.out _ (Below.refl _ _)) Xb.out)
  go_enter Try.func6, Try.ntmps6
  go_wp2_with fail
  refine HF.out.mono ?_
  rintro e w1 ⟨rfl, hm, hbel⟩
  have HM := Lib.hid hm
  have HB := Lib.hid hbel
  have hs1 := hbel.size
  have hml := hm.body.lt
  clear hm hbel HF
  have HNr : Hid (NumsRd w1 w.heap.size a' cap' ps) := ⟨pcap, Hp.out.imp id (fun ⟨b, off, e1, e2, e3⟩ => ⟨b, off, e1, by omega, by omega, fun i hi => e3 w1 HB.out i hi⟩)⟩
  have HBd := Lib.hid (build_any (w.heap.size + 1) w.heap.size xs at_ a' cap' offset long ps w1 HM.out HNr.out a0 a1 Pb.out (by omega) o0 o1 l0 l1)
  obtain ⟨B, hB⟩ : ∃ B, buildRes xs at_ ps offset long = B := ⟨_, rfl⟩
  rw [hB] at HBd
  have HBe := Lib.hid hB
  clear hB
  go_wp2_with fail
  refine HBd.out.mono ?_
  rintro e w2 ⟨rfl, hm2, hk2⟩
  have HB2 := Lib.hid (HB.out.trans (hk2.below w.heap.size hs1 (fun k h => by omega)))
  by_cases he : B.e = 0
  · rw [show errV2 B.e = .nilIface by unfold errV2; rw [if_pos he]]
    have hwb := walk_built xs (by omega) at_ ps offset long (by rw [HBe.out]; exact he)
    have huv := build_uv xs at_ ps offset long (by rw [HBe.out]; exact he)
    rw [HBe.out] at hwb huv
    obtain ⟨q1, q2, q3, q4, hbl, x0, t, hpx, hfp, hwalk⟩ := hwb
    obtain ⟨hu, hv, hpg⟩ := huv
    have hn1 : 1 ≤ ps.length := by rw [hpx]; simp
    have hsegs : (x0 + offset, min (64 - offset) long) :: segsOf t (long - min (64 - offset) long) = builtSegs ps offset long := by rw [hpx]; rfl
    rw [hsegs] at hwalk
    have hub : -9223372036854775808 ≤ B.u ∧ B.u ≤ 9223372036854775807 := by
      have h1 := Pb.out (ps.getD 0 0) (by simp [List.getD, show 0 < ps.length by omega])
      have h2 := (pageOk_iff _).1 (hpg (ps.getD 0 0) (by simp [List.getD, show 0 < ps.length by omega]))
      omega
    have hvb : -9223372036854775808 ≤ B.v ∧ B.v ≤ 9223372036854775807 := by
      rcases hv with h | h | h
      · omega
      · by_cases h2 : 1 < ps.length
        · have h1 := Pb.out (ps.getD 1 0) (by simp [List.getD, h2])
          omega
        · have : ps.getD 1 0 = 0 := by simp [List.getD, show ps.length ≤ 1 by omega]
          omega
      · omega
    have HM2 := Lib.hid hm2
    have HA := Lib.hid (walk_any (w.heap.size + 1) w.heap.size B.bs B.u B.v long w2 HM2.out hub.1 hub.2 hvb.1 hvb.2 (by omega) (by omega))
    rw [hwalk] at HA
    have HWk := Lib.hid hwalk
    have HPg := Lib.hid hpg
    have HBl := Lib.hid hbl
    clear hwalk hpg hbl hfp hsegs hpx hu hv hm2 hk2 HBd HNr he
    generalize hS : builtSegs ps offset long = segs at *
    have HS := Lib.hid hS
    clear hS
    go_wp2_with fail
    refine HA.out.mono ?_
    rintro e w3 ⟨hbel3, _, hok⟩
    obtain ⟨v, rfl, ho⟩ := hok rfl
    obtain ⟨hl1, hl2, hsok, hsum, _⟩ := walkRes_ok _ _ _ _ _ HWk.out
    have hsl : segs.length = ps.length := by rw [← HS.out]; exact builtSegs_length _ _ _
    have hln : segs.length ≤ 2048 := by have := segOk_long hsok; omega
    simp only [] at ho
    obtain ⟨g, cg, rfl, hgb⟩ := own_form ho (by omega)
    have hsr := segRd_own ho rfl
    have HSR := Lib.hid hsr
    have HSok := Lib.hid hsok
    have HSum := Lib.hid hsum
    have HB3 := Lib.hid (HB2.out.trans (hbel3.mono HB2.out.size))
    have HM3 := Lib.hid (HM2.out.below hbel3)
    have hs3 := HB3.out.size
    have hg3 := (ho.lt g rfl).1
    have hs2 := HB2.out.size
    have d0 : ((segs.length : Int) != (ps.length : Int)) = false := by simp; omega
    have HSl := Lib.hid hsl
    have hgm : g ≠ w.heap.size := by have := HM2.out.body.lt; omega
    clear hsr hsok hsum hbel3 ho hok HA HM2 HB2 HB HM hsl
    obtain ⟨pb, poff, rfl, hpbl, hpc⟩ := Hp.out.resolve_left (by omega)
    have HPc := Lib.hid hpc
    clear Hp hpc
    go_wp2_with fail
    clear d0
    go_loopw [17, 18] (fun s i wr => ∃ j : Nat, j ≤ segs.length ∧ i = .int .i64 j ∧ s = .int .i64 (segSum (segs.take j)) ∧ Below w3.heap.size w3 wr ∧ ∀ i i', i < i' → i' < j → ps.getD i 0 ≠ ps.getD i' 0) (fun _ i _ => segs.length - (intOf i).toNat)
    case atStart => exact ⟨0, Nat.zero_le _, rfl, rfl, Below.refl _ _, fun i i' _ h => by omega⟩
    case round =>
      obtain ⟨j, hj, rfl, rfl, hbr, hdis⟩ := hrel
      have HDis := Lib.hid hdis
      clear hdis
      by_cases hlt : j < segs.length
      · have hjp : j < ps.length := by have := HSl.out; omega
        obtain ⟨sb, soff, e1, hsb, hcell⟩ := HSR.out.resolve_left (by omega)
        cases e1
        have hc1 := (hbr.cell (p := ⟨g, 0 + j * 2, none⟩) hsb).trans (hcell j hlt).1
        have hc2 := (hbr.cell (p := ⟨g, 0 + j * 2 + 1, none⟩) hsb).trans (hcell j hlt).2
        rw [Nat.zero_add] at hc1 hc2
        have hok := HSok.out (segs.getD j (0, 0)) (by simp [List.getD, hlt])
        have hfst : (segs.getD j (0, 0)).1 = ps.getD j 0 + if j = 0 then offset else 0 := by
          have := builtSegs_at ps offset long j hjp
          rw [HS.out] at this; exact this
        have hst := segSum_take segs j hlt
        have hb1 := segSum_bd HSok.out j
        have hb2 := segSum_bd HSok.out (j + 1)
        rw [HSum.out] at hb1 hb2
        have hpc := HPc.out wr (HB3.out.trans (hbr.mono hs3)) j hjp
        have hpgj := (pageOk_iff _).1 (HPg.out (ps.getD j 0) (by simp [List.getD, hjp]))
        have hpbj := Pb.out (ps.getD j 0) (by simp [List.getD, hjp])
        have HBr := Lib.hid hbr
        have HSt := Lib.hid hst
        obtain ⟨hf, hn1', hpgs⟩ := hok
        have hf' := (memFits_iff _ _ _).1 hf
        have hbs : B.bs.length ≤ 16384 := by have := HBl.out; omega
        clear hcell hbr hst hf
        generalize segs.getD j (0, 0) = s at *
        obtain ⟨x, n⟩ := s
        simp only [] at hc1 hc2 hn1' hpgs hf' hfst HSt
        have hn64 : n ≤ 64 := by omega
        have d1 : decide (n < 1) = false := decide_eq_false (by omega)
        have d2 : decide (64 < n) = false := decide_eq_false (by omega)
        have HQ : Hid (ps.getD j 0 = ps.getD j 0) := rfl
        generalize hpj : ps.getD j 0 = y at *
        have HY := Lib.hid hpj
        clear hpj
        generalize segSum (segs.take j) = sm at *
        have hcs : (((j : Int) == 0) = true ∧ x = y + offset) ∨ (((j : Int) == 0) = false ∧ x = y) := by
          by_cases h0 : j = 0
          · rw [if_pos h0] at hfst; exact .inl ⟨by simp; omega, hfst⟩
          · rw [if_neg h0] at hfst; exact .inr ⟨by simp; omega, by omega⟩
        have hxy : x ≤ 16384 := by omega
        clear hfst
        rcases hcs with ⟨dj, hxe⟩ | ⟨dj, hxe⟩
        all_goals
          replace hxe := hxe.symm
          subst hxe
          go_wp2_with fail
          clear dj hc1 hc2 hpc d1 d2
          rename World => wo
          go_loopw [20] (fun i wr => ∃ k : Nat, k ≤ j ∧ i = .int .i64 k ∧ Below w3.heap.size w3 wr ∧ ∀ i', i' < k → ps.getD i' 0 ≠ y) (fun i _ => j - (intOf i).toNat)
          case atStart => exact ⟨0, Nat.zero_le _, rfl, HBr.out, fun i' h => by omega⟩
          case round =>
            obtain ⟨k, hk, rfl, hbk, hne⟩ := hrel
            have HBk := Lib.hid hbk
            have HNe := Lib.hid hne
            clear hbk hne
            by_cases hkj : k < j
            · have hBk := HB3.out.trans (HBk.out.mono hs3)
              have hpk := HPc.out wr hBk k (by omega)
              have hpj := HPc.out wr hBk j hjp
              rw [HY.out] at hpj
              have i1 : (k : Int) < (ps.length : Int) := by omega
              have i2 : (j : Int) < (ps.length : Int) := by omega
              have HNx : Hid (ps.getD k 0 ≠ y → ∀ i', i' < k + 1 → ps.getD i' 0 ≠ y) := fun h i' hi' => by
                by_cases e : i' = k
                · subst e; exact h
                · exact HNe.out i' (by omega)
              have HBe := Lib.hid hBk
              clear hBk
              generalize ps.getD k 0 = yk at *
              by_cases hyy : yk = y
              · have dy : (yk == y) = true := by simp; exact hyy
                have hyy' : Hid (yk = y) := hyy
                clear hyy
                go_wp2_with fail
                go_quiet (fail)
                clear hpk hpj
                go_wp2
                go_ret
                exact ⟨rfl, below_drewN HBe.out _⟩
              · have dy : (yk == y) = false := by simp; exact hyy
                have HN2 := Lib.hid (HNx.out hyy)
                clear hyy HNx
                go_wp2_with fail
                go_quiet (fail)
                clear hpk hpj
                go_wp2
                go_roundw
                case rel => exact ⟨k + 1, by omega, by go_num, below_drewN HBk.out _, HN2.out⟩
                case measure => simp [intOf]; omega
            · obtain rfl : k = j := by omega
              have HD2 : Hid (∀ i i', i < i' → i' < k + 1 → ps.getD i 0 ≠ ps.getD i' 0) := fun i i' h1 h2 => by
                by_cases e : i' = k
                · subst e; rw [HY.out]; exact HNe.out i h1
                · exact HDis.out i i' h1 (by omega)
              go_wp2
              go_roundw
              case rel => exact ⟨k + 1, by omega, by go_num, by rw [HSt.out], HBk.out, HD2.out⟩
              case measure => simp [intOf]; omega
      · obtain rfl : j = segs.length := by omega
        have hsum : segSum (segs.take segs.length) = long := by rw [List.take_length]; exact HSum.out
        have hap : Apart B.bs.length segs := by
          rw [← HS.out]
          exact builtSegs_apart B.bs.length ps offset long q3 q4 HPg.out (by rw [HS.out]; exact HSok.out) (fun i i' h1 h2 => HDis.out i i' h1 (by have := HSl.out; omega))
        have HAp := Lib.hid hap
        rw [hsum]
        obtain ⟨ln, rfl⟩ := Int.eq_ofNat_of_zero_le (show 0 ≤ long by omega)
        have HBr := Lib.hid hbr
        have HRun : Hid (scatRun segs (ln : Int) = some 0) := scatRun_sum segs _ (fun s hs => by have := (HSok.out s hs).2.1; omega) HSum.out
        have hwfs : ∀ s ∈ segs, (-9223372036854775808 ≤ s.1 ∧ s.1 ≤ 9223372036854775807) ∧ -9223372036854775808 ≤ s.2 ∧ s.2 ≤ 9223372036854775807 := fun s hs => by
          have h1 := (memFits_iff _ _ _).1 (HSok.out s hs).1
          have := HBl.out
          omega
        have HWfs := Lib.hid hwfs
        clear hsum hap hbr hwfs HDis
        obtain ⟨i0, hi, hz0', hz1, hz2⟩ := info_parts (P := Try.prog) (e := 5) (z := .int .u8 0) (size := 1) (bytes := 1) (by kernel_rfl)
        have Hi := Lib.hid hi
        have Hz0 := Lib.hid hz0'
        have Hz1 := Lib.hid hz1
        have Hz2 := Lib.hid hz2
        clear hi hz0' hz1 hz2
        go_wp2_with fail
        rename World => wo
        go_loopw [21, 22] (fun v i wr => ∃ k : Nat, k ≤ ln ∧ i = .int .i64 k ∧ wr.ownsRow w3.heap.size 5 1 v k ((backData k).map (Value.int .u8)) ∧ Below w3.heap.size w3 wr) (fun _ i _ => ln - (intOf i).toNat)
        case atStart => exact ⟨0, Nat.zero_le _, rfl, World.ownsRow_nil _ _ _ _, HBr.out⟩
        case round =>
          obtain ⟨k, hk, rfl, how, hbk⟩ := hrel
          have HOw := Lib.hid how
          have HBk := Lib.hid hbk
          have hsz := hbk.size
          clear how hbk
          by_cases hkl : k < ln
          · have hby : IntKind.u8.wrap (7 * (k : Int) + 1) = backByte k := by unfold backByte; simp [IntKind.wrap, IntKind.bits, IntKind.signed]
            have HO1 := Lib.hid (HOw.out.alloc (.cells #[.int .u8 (backByte k)] 5))
            have HDs := Lib.hid (backData_succ k)
            have hbb : 0 ≤ backByte k ∧ backByte k ≤ 255 := by unfold backByte; omega
            generalize backByte (k : Int) = bk at *
            go_wp2_with (at_builtin; refine wpList_append_own _ rfl _ _ 33 rfl w3.heap.size 5 i0 (.int .u8 0) 1 1 Try.underlying33 Hi.out Hz0.out Hz1.out Hz2.out rfl (by decide) _ _ _ rfl HO1.out ⟨wr.heap.size, 0, none⟩ 1 1 [.int .u8 bk] rfl rfl ?c1 ?c2 ?c3 ?c4 ?c5 ?_)
            case c1 => exact one_news _ _ _ _ rfl
            case c2 => intro u hu; simp at hu; subst hu; rfl
            case c3 => unfold maxLen; omega
            case c4 => omega
            case c5 => simp; omega
            intro v' w6 hown' hgrow _
            have HO6 : Hid (w6.ownsRow w3.heap.size 5 1 v' (k + 1) ((backData (k + 1)).map (Value.int .u8))) := by
              show World.ownsRow _ _ _ _ _ _ _
              rw [HDs.out, List.map_append]; exact hown'
            have HB6 := Lib.hid ((HBk.out.alloc hsz (.cells #[.int .u8 bk] 5)).grown hgrow (by simp; omega) (fun q hq => (HOw.out.lt q hq).1))
            clear hown' hgrow HO1 hby
            go_wp2
            go_roundw
            case rel => exact ⟨k + 1, by omega, by go_num, HO6.out, HB6.out⟩
            case measure => simp [intOf]; omega
          · obtain rfl : k = ln := by omega
            obtain ⟨gd, cd, rfl, hgd⟩ := own_form HOw.out (by omega)
            have hdl := backData_length k
            have HMr := Lib.hid (HM3.out.below HBk.out)
            have hdb : ∀ x ∈ backData k, 0 ≤ x ∧ x ≤ 255 := fun x hx => by
              unfold backData at hx
              obtain ⟨i, _, rfl⟩ := List.mem_map.1 hx
              unfold backByte; omega
            have hcd : k ≤ cd := by
              rcases HOw.out.2 with ⟨h, _⟩ | ⟨g', cap', cur, h, _, _, h2, _⟩
              · cases h
              · cases h; exact h2
            have hdc : ∀ i, i < (backData k).length → wr.cell? ⟨gd, 0 + i, none⟩ = some (.int .u8 ((backData k).getD i 0)) := fun i hi => by
              rw [Nat.zero_add, HOw.out.cellAt i (by omega)]
              simp [List.getD, hi]
            have hgdl := (HOw.out.lt gd rfl).2
            have hgdm : gd ≠ w.heap.size := by have := HM3.out.body.lt; omega
            have hsc := scatter_any (w.heap.size + 1) w.heap.size B.bs (some ⟨g, 0, none⟩) cg segs (some ⟨gd, 0, none⟩) cd (backData k) wr HMr.out (HSR.out.below HBk.out) HWfs.out (by omega) (by omega)
              ⟨by omega, .inr ⟨gd, 0, rfl, hgdm, hgdl, hdc⟩⟩ (fun sb off e => by cases e; exact hgm) hdb
            rw [hdl] at hsc
            have HSc := Lib.hid hsc
            have HDl := Lib.hid hdl
            have HDc := Lib.hid hdc
            clear hsc hdl hdb hdc
            go_wp2_with fail
            refine HSc.out.mono ?_
            rintro e w7 hend
            have hend' := hend.resolve_right (fun ⟨_, h⟩ => by
              rcases h with ⟨h, _⟩ | ⟨_, ⟨s, hs, h⟩, _⟩
              · exact h HRun.out
              · rw [(HSok.out s hs).1] at h; cases h)
            obtain ⟨_, _, rfl, hm7, hk7⟩ := hend'
            obtain ⟨hgs, hsl7⟩ := gather_scat segs B.bs (backData k) [] (fun s hs => (HSok.out s hs).1) HAp.out (by rw [HDl.out]; exact HRun.out)
            have hsr7 : SegRd w7 (some ⟨g, 0, none⟩) segs := by
              rcases HSR.out.below HBk.out with h | ⟨sb, off, e1, e2, e3⟩
              · exact .inl h
              · have e4 : sb = g := by have := Option.some.inj e1; cases this; rfl
                refine .inr ⟨sb, off, e1, Nat.lt_of_lt_of_le e2 hk7.size, fun i hi => ?_⟩
                rw [hk7.cell (p := ⟨sb, off + i * 2, none⟩) e2 (by rw [e4]; exact hgm), hk7.cell (p := ⟨sb, off + i * 2 + 1, none⟩) e2 (by rw [e4]; exact hgm)]
                exact e3 i hi
            have hga := gather_any (w.heap.size + 1) w.heap.size _ (some ⟨g, 0, none⟩) cg segs w7 hm7 hsr7 HWfs.out (by omega)
            rw [hgs, List.nil_append] at hga
            have HGa := Lib.hid hga
            have HB7 := Lib.hid (HB3.out.trans (HBk.out.mono hs3) |>.trans (hk7.below w.heap.size (Nat.le_trans hs3 hsz) (fun q h => by omega)))
            have HD7 : Hid (∀ i, i < (backData k).length → w7.cell? ⟨gd, 0 + i, none⟩ = some (.int .u8 ((backData k).getD i 0))) := fun i hi => (hk7.cell (p := ⟨gd, 0 + i, none⟩) hgdl hgdm).trans (HDc.out i hi)
            have hgd7 : gd < w7.heap.size := Nat.lt_of_lt_of_le hgdl hk7.size
            clear hend hm7 hk7 hgs hsl7 hsr7 hga HSc
            go_wp2_with fail
            refine HGa.out.mono ?_
            rintro e w8 ⟨hb8, v8, rfl, ho8⟩
            obtain ⟨g8, c8, rfl, _⟩ := own_form ho8 (by rw [HDl.out]; omega)
            have HB8 := Lib.hid (HB7.out.trans (hb8.mono HB7.out.size))
            have hsame := fun c c' => bytes_same (some ⟨g8, 0, none⟩) (some ⟨gd, 0, none⟩) c c' (backData k) w8 (RdB.own ho8 rfl) (.inr ⟨gd, 0, rfl, fun i hi => (hb8.cell (p := ⟨gd, 0 + i, none⟩) hgd7).trans (HD7.out i hi)⟩) (by rw [HDl.out]; omega)
            rw [HDl.out] at hsame
            have HSame := Lib.hid hsame
            rw [HDl.out]
            clear hb8 ho8 hsame HGa
            go_wp2_with fail
            refine (HSame.out _ _).mono ?_
            rintro e w9 ⟨rfl, q, rfl⟩
            clear HSame
            go_wp2
            go_ret
            exact ⟨rfl, below_drewN HB8.out q⟩
  · rw [show errV2 B.e = .iface 64 (.int .i64 B.e) by unfold errV2; rw [if_neg he]]
    clear hm2 hk2 HBd HNr he
    go_wp2
    go_ret
    exact ⟨rfl, HB2.out⟩
end Go.Proofs.Ytnapgigemdmigaa
