/- Contract of granaryref2.FindOf. -/
import Derived.Test.YtnjcmhpifdaheaaDoorOrderRef
import Derived.Test.YtnjcmhpifdaheaaDoorOrderFindLaw
import Derived.Test.YtnjcmhpifdaheaaDoorBase3
namespace Go.Proofs.YtnjcmhpifdaheaaDoor
open Go.RowKit
set_option linter.unusedVariables false
namespace Ord

def ints (ord : List Nat) : List Value := ord.map fun x => Value.int .i64 ((x : Nat) : Int)
theorem lat_own {w : World} {base : Nat} {v : Value} {ord : List Nat} (h : w.ownsRow base 3 1 v ord.length (ints ord)) (hp : 0 < ord.length) : LAt w v ord := by
  obtain ⟨_, ⟨rfl, h0⟩ | ⟨g, cap, cur, rfl, h1, h2, h3, h4, h5, h6⟩⟩ := h
  · omega
  · refine .inr ⟨g, cap, rfl, hp, h3, (Array.getElem?_eq_some_iff.1 h2).1, fun i hi => ?_⟩
    have e1 : w.cell? ⟨g, i, none⟩ = cur[i]? := by simp [World.cell?, h2]
    rw [e1]
    have e2 : (cur.toList.take (ord.length * 1))[i]? = some (Value.int .i64 ((ord.getD i 0 : Nat) : Int)) := by rw [h6]; simp [ints, List.getD, hi]
    simpa [List.getElem?_take, hi] using e2
theorem lat_none {w : World} {la : Option Addr} {n lc : Nat} {ord : List Nat} (h : LAt w (.slice la n lc) ord) : la = none → n = 0 ∧ lc = 0 := by
  intro e
  rcases h with ⟨h1, _⟩ | ⟨g, cap, h1, _⟩
  · cases h1; exact ⟨rfl, rfl⟩
  · subst e; cases h1
theorem lat_news {w : World} {la : Option Addr} {n lc : Nat} {ord : List Nat} (h : LAt w (.slice la n lc) ord) : ∀ b, la = some b → ∀ j u, (ints ord)[j]? = some u → w.cell? (b.add j) = some u := by
  intro b hb j u hj
  have hjl : j < ord.length := by have := (List.getElem?_eq_some_iff.1 hj).1; simpa [ints] using this
  obtain ⟨lb, e, _, hc⟩ := h.inside (by omega)
  rw [hb] at e
  cases e
  rw [WideShapes.add_plain, Nat.zero_add, hc j hjl, ← hj]
  simp [ints, List.getD, hjl]
theorem ints_one (ord : List Nat) : ∀ u ∈ ints ord, u.oneCell' = true := by
  intro u hu
  obtain ⟨x, _, rfl⟩ := List.mem_map.1 hu
  rfl

open Classical in
/-- the candidates from i on -/
noncomputable def refFrom (cs : List OCall) (k : Nat) (ord : List Nat) (i : Nat) : Option (List Nat) :=
  (List.range' i (cs.length - i)).findSome? fun i => if i ∈ ord then none else if Right cs (ord ++ [i]) then refFind cs k (ord ++ [i]) else none
theorem refFind_from (cs : List OCall) (k : Nat) (ord : List Nat) : refFind cs (k + 1) ord = refFrom cs k ord 0 := by
  simp [refFind, refFrom, List.range_eq_range']
theorem refFrom_end (cs : List OCall) (k : Nat) (ord : List Nat) (i : Nat) (h : cs.length ≤ i) : refFrom cs k ord i = none := by
  unfold refFrom
  rw [show cs.length - i = 0 by omega]
  rfl
theorem refFrom_in (cs : List OCall) (k : Nat) (ord : List Nat) (i : Nat) (h : i < cs.length) (hm : i ∈ ord) : refFrom cs k ord i = refFrom cs k ord (i + 1) := by
  unfold refFrom
  rw [show cs.length - i = (cs.length - (i + 1)) + 1 by omega, List.range'_succ]
  simp [hm]
theorem refFrom_wrong (cs : List OCall) (k : Nat) (ord : List Nat) (i : Nat) (h : i < cs.length) (hm : ¬ Right cs (ord ++ [i])) : refFrom cs k ord i = refFrom cs k ord (i + 1) := by
  unfold refFrom
  rw [show cs.length - i = (cs.length - (i + 1)) + 1 by omega, List.range'_succ]
  simp [hm]
theorem refFrom_none (cs : List OCall) (k : Nat) (ord : List Nat) (i : Nat) (h : i < cs.length) (hm : refFind cs k (ord ++ [i]) = none) : refFrom cs k ord i = refFrom cs k ord (i + 1) := by
  unfold refFrom
  rw [show cs.length - i = (cs.length - (i + 1)) + 1 by omega, List.range'_succ]
  simp [hm]
theorem refFrom_some (cs : List OCall) (k : Nat) (ord : List Nat) (i : Nat) (h : i < cs.length) (hi : i ∉ ord) (hr : Right cs (ord ++ [i])) (r : List Nat) (hm : refFind cs k (ord ++ [i]) = some r) : refFrom cs k ord i = some r := by
  unfold refFrom
  rw [show cs.length - i = (cs.length - (i + 1)) + 1 by omega, List.range'_succ]
  simp [hi, hr, hm]

/-- how FindOf ends -/
def RefEnd (cs : List OCall) (k : Nat) (ord : List Nat) (w : World) (e : Ending) (w' : World) : Prop :=
  Keep (fun _ => False) w w' ∧ ((refFind cs k ord = none ∧ e = .returned (.tuple #[.slice none 0 0, .bool false])) ∨
    ∃ r v, refFind cs k ord = some r ∧ e = .returned (.tuple #[v, .bool true]) ∧ LAt w' v r)

theorem mem_take_succ (ord : List Nat) (p q : Nat) (h : q < ord.length) : p ∈ ord.take (q + 1) ↔ p ∈ ord.take q ∨ ord.getD q 0 = p := by
  rw [List.take_add_one, List.mem_append]
  simp [List.getD, h, eq_comm]

set_option maxRecDepth 100000 in
set_option maxHeartbeats 8000000 in
theorem ref_findOf (cs : List OCall) (hn : cs.length ≤ 10) : ∀ (k : Nat) (ord : List Nat) (w : World) (a : Option Addr) (cap : Nat) (la : Option Addr) (lc : Nat), IsCalls w a cs → LAt w (.slice la ord.length lc) ord → (∀ x ∈ ord, x < cs.length) → ord.length + k = cs.length →
    Calls Tryd.prog 10 #[.slice a cs.length cap, .slice la ord.length lc] w (RefEnd cs k ord w) := by
  intro k
  induction k with
  | zero =>
    intro ord w a cap la lc hc hL hlt hlen
    have HEnd : Hid (RefEnd cs 0 ord w (.returned (.tuple #[.slice la ord.length lc, .bool true])) w) := ⟨Keep.refl _ _, .inr ⟨ord, _, rfl, rfl, hL⟩⟩
    have d0 : ((ord.length : Int) == (cs.length : Int)) = true := by simp; omega
    clear hc hL hlt hlen
    go_enter Tryd.func10, Tryd.ntmps10
    go_wp2_with fail
    exact bodyPost_ret (v := .tuple #[.slice la ord.length lc, .bool true]) (by simp [results, Tryd.results10, go_sem]) rfl HEnd.out
  | succ k ih =>
    intro ord w a cap la lc hc hL hlt hlen
    have HC := Lib.hid hc
    have HL := Lib.hid hL
    have HLt := Lib.hid hlt
    have HIh := Lib.hid ih
    have HLen := Lib.hid hlen
    have hol : ord.length < cs.length := by omega
    have d0 : ((ord.length : Int) == (cs.length : Int)) = false := beq_eq_false_iff_ne.2 (by omega)
    obtain ⟨i0, hi, hz0', hz1, hz2⟩ := info_parts (P := Tryd.prog) (e := 3) (z := .int .i64 0) (size := 1) (bytes := 8) (by kernel_rfl)
    have Hi := Lib.hid hi
    have Hz0 := Lib.hid hz0'
    have Hz1 := Lib.hid hz1
    have Hz2 := Lib.hid hz2
    clear hc hL hlt hlen ih hi hz0' hz1 hz2
    go_enter Tryd.func10, Tryd.ntmps10
    go_wp2_with fail
    go_loopw [6] (fun i wr => ∃ p : Nat, p ≤ cs.length ∧ i = .int .i64 p ∧ Keep (fun _ => False) w wr ∧ refFind cs (k + 1) ord = refFrom cs k ord p) (fun i _ => cs.length - (intOf i).toNat)
    case atStart => exact ⟨0, Nat.zero_le _, rfl, Keep.refl _ _, refFind_from cs k ord⟩
    case round =>
      obtain ⟨p, hp, rfl, hk, hall⟩ := hrel
      have HK := Lib.hid hk
      have HAll := Lib.hid hall
      clear hk hall
      by_cases hpl : p < cs.length
      · rename World => w5
        go_wp2_with fail
        go_loopw [7, 8] (fun b i wr => ∃ q : Nat, q ≤ ord.length ∧ i = .int .i64 q ∧ b = .bool (decide (p ∈ ord.take q)) ∧ Keep (fun _ => False) w5 wr) (fun _ i _ => ord.length - (intOf i).toNat)
        case atStart => exact ⟨0, Nat.zero_le _, rfl, by simp, Keep.refl _ _⟩
        case round =>
          obtain ⟨q, hq, rfl, rfl, hk5⟩ := hrel
          have HK5 := Lib.hid hk5
          have HKw := Lib.hid (HK.out.trans hk5)
          clear hk5
          by_cases hql : q < ord.length
          · by_cases hin : p ∈ ord.take q
            · have HNx : Hid (decide (p ∈ ord.take q) = true ∧ decide (p ∈ ord.take (q + 1)) = true) := ⟨decide_eq_true hin, decide_eq_true ((mem_take_succ ord p q hql).2 (.inl hin))⟩
              rw [HNx.out.1]
              clear hin
              go_wp2_with fail
              go_roundw
              case rel => exact ⟨q + 1, by omega, by go_num, by rw [HNx.out.2], HK5.out⟩
              case measure => simp [intOf]; omega
            · obtain ⟨lb, rfl, hlb, hlc⟩ := (HL.out.keep0 HKw.out).inside (by omega)
              have l0 := hlc q hql
              obtain ⟨o, ho⟩ : ∃ o, ord.getD q 0 = o := ⟨_, rfl⟩
              rw [ho] at l0
              have HNx : Hid (decide (p ∈ ord.take q) = false ∧ decide (p ∈ ord.take (q + 1)) = decide ((o : Int) = (p : Int))) := ⟨decide_eq_false hin, decide_eq_decide.2 ((mem_take_succ ord p q hql).trans ⟨fun h => h.elim (fun h => absurd h hin) (fun h => by omega), fun h => .inr (by omega)⟩)⟩
              rw [HNx.out.1]
              clear hin hlc ho
              go_wp2_with fail
              go_roundw
              case rel => exact ⟨q + 1, by omega, by go_num, by rw [HNx.out.2]; rfl, HK5.out⟩
              case measure => simp [intOf]; omega
          · obtain rfl : q = ord.length := by omega
            rw [List.take_length]
            by_cases hin : p ∈ ord
            · have HNx := Lib.hid (refFrom_in cs k ord p hpl hin)
              have d1 : decide (p ∈ ord) = true := decide_eq_true hin
              rw [d1]
              clear hin d1
              go_wp2_with fail
              go_roundw
              case rel => exact ⟨p + 1, by omega, by go_num, HKw.out, HAll.out.trans HNx.out⟩
              case measure => simp [intOf]; omega
            · have d1 : decide (p ∈ ord) = false := decide_eq_false hin
              have HIn := Lib.hid hin
              rw [d1]
              clear hin d1
              rename World => w6
              have HO0 : Hid ((w6.alloc (.cells #[] 3)).ownsRow w.heap.size 3 1 (.slice (some ⟨w6.heap.size, 0, none⟩) 0 0) 0 []) := World.ownsRow_lit w6 #[] 0 HKw.out.size (by decide) rfl
              have HL6 : Hid (LAt (w6.alloc (.cells #[] 3)) (.slice la ord.length lc) ord) := HL.out.keep0 (HKw.out.alloc _)
              go_wp2_with (at_builtin; refine wpList_append_any rfl _ _ 28 rfl w.heap.size 3 i0 (.int .i64 0) 1 8 Tryd.underlying28 Hi.out Hz0.out Hz1.out Hz2.out rfl (by decide) (.slice (some ⟨w6.heap.size, 0, none⟩) 0 0) 0 [] rfl HO0.out la ord.length lc (ints ord) rfl ?g0 ?g1 ?g2 (ints_one _) ?g4 ?g5 ?g6 ?g7)
              case g0 => exact lat_none HL6.out
              case g1 => simp [ints]
              case g2 => exact lat_news HL6.out
              case g4 => unfold maxLen; omega
              case g5 => omega
              case g6 => have := HKw.out.size; simp; omega
              case g7 =>
                intro v7 w7 hown hgrow _
                have HOwn := Lib.hid (show w7.ownsRow w.heap.size 3 1 v7 ord.length (ints ord) from by simpa using hown)
                have HK7 := Lib.hid (show Keep (fun _ => False) w w7 from (HKw.out.alloc _).grown hgrow (fun k hk => .inr (by have := HKw.out.size; simp [Value.ownBlock] at hk; omega)))
                clear hown hgrow HO0 HL6
                have HRow : Hid ((w7.alloc (.cells #[.int .i64 p] 3)).ownsRow w.heap.size 3 1 v7 ord.length (ints ord)) := HOwn.out.alloc _
                have HNews := Lib.hid (show ∀ j u, ([.int .i64 p] : List Value)[j]? = some u → (w7.alloc (.cells #[.int .i64 p] 3)).cell? ((⟨w7.heap.size, 0, none⟩ : Addr).add j) = some u from fun j u hj => by
                  rw [WideShapes.add_plain, Nat.zero_add]
                  exact ((Blk.new w7 #[.int .i64 p] 3).cell j).trans (by rw [← hj]; simp))
                go_wp2_with (at_builtin; refine wpList_append_own _ rfl _ _ 28 rfl w.heap.size 3 i0 (.int .i64 0) 1 8 Tryd.underlying28 Hi.out Hz0.out Hz1.out Hz2.out rfl (by decide) v7 ord.length (ints ord) rfl HRow.out ⟨w7.heap.size, 0, none⟩ 1 1 [.int .i64 p] rfl rfl HNews.out ?d2 ?d3 ?d4 ?d5 ?d6)
                case d2 => intro u hu; simp at hu; subst hu; rfl
                case d3 => unfold maxLen; omega
                case d4 => omega
                case d5 => have := HK7.out.size; simp; omega
                case d6 =>
                  intro v8 w8 hown hgrow _
                  have hl8 : (ord ++ [p]).length = ord.length + 1 := by simp
                  have hL8 : LAt w8 v8 (ord ++ [p]) := lat_own (base := w.heap.size) (by
                    rw [hl8, show ints (ord ++ [p]) = ints ord ++ [.int .i64 p] by simp [ints]]
                    exact hown) (by omega)
                  have HK8 := Lib.hid (show Keep (fun _ => False) w w8 from (HK7.out.alloc _).grown hgrow (fun k hk => .inr (by
                    rcases HOwn.out.2 with ⟨e, _⟩ | ⟨g', cap', cur, e, h1, _⟩
                    · subst e; cases hk
                    · subst e; cases hk; exact h1)))
                  obtain ⟨a8, c8, rfl⟩ : ∃ a8 c8, v8 = .slice a8 (ord.length + 1) c8 := by
                    rcases hL8 with ⟨_, h⟩ | ⟨g, cp, h, _⟩
                    · simp at h
                    · exact ⟨_, cp, by rw [h, hl8]⟩
                  have HL8 := Lib.hid hL8
                  have hlt8 : ∀ x ∈ ord ++ [p], x < cs.length := fun x hx => by
                    rcases List.mem_append.1 hx with hx | hx
                    · exact HLt.out x hx
                    · simp at hx; subst hx; exact hpl
                  have HR8 := Lib.hid (ref_right w8 a cap cs a8 c8 (ord ++ [p]) (HC.out.keep HK8.out) (by rw [hl8]; exact hL8) hlt8 (by omega) (by omega))
                  rw [hl8] at HR8
                  have HIh8 : Hid (∀ w9, Keep (fun _ => False) w8 w9 → Calls Tryd.prog 10 #[.slice a cs.length cap, .slice a8 (ord.length + 1) c8] w9 (RefEnd cs k (ord ++ [p]) w9)) := fun w9 hk9 => by
                    have := HIh.out (ord ++ [p]) w9 a cap a8 c8 (HC.out.keep (HK8.out.trans hk9)) (by rw [hl8]; exact hL8.keep0 hk9) hlt8 (by have := HLen.out; omega)
                    rw [hl8] at this
                    exact this
                  clear hown hgrow hL8 hl8 hlt8 HRow HNews HOwn
                  go_wp2_with fail
                  refine HR8.out.mono ?_
                  rintro e w9 ⟨b, rfl, hb, hk9⟩
                  have HK9 := Lib.hid hk9
                  have HKw9 := Lib.hid (HK8.out.trans hk9)
                  clear hk9
                  cases b with
                  | false =>
                    have HNx := Lib.hid (refFrom_wrong cs k ord p hpl (fun h => by have := hb.2 h; cases this))
                    clear hb
                    go_wp2_with fail
                    go_roundw
                    case rel => exact ⟨p + 1, by omega, by go_num, HKw9.out, HAll.out.trans HNx.out⟩
                    case measure => simp [intOf]; omega
                  | true =>
                    have HRt := Lib.hid (hb.1 rfl)
                    clear hb
                    go_wp2_with fail
                    refine (HIh8.out _ HK9.out).mono ?_
                    rintro e w10 ⟨hk10, ⟨hnone, rfl⟩ | ⟨r, v, hsome, rfl, hv⟩⟩
                    · have HNx := Lib.hid (refFrom_none cs k ord p hpl hnone)
                      have HK10 := Lib.hid (HKw9.out.trans hk10)
                      clear hk10 hnone
                      go_wp2_with fail
                      go_roundw
                      case rel => exact ⟨p + 1, by omega, by go_num, HK10.out, HAll.out.trans HNx.out⟩
                      case measure => simp [intOf]; omega
                    · have HEnd : Hid (RefEnd cs (k + 1) ord w (.returned (.tuple #[v, .bool true])) w10) := ⟨HKw9.out.trans hk10, .inr ⟨r, v, HAll.out.trans (refFrom_some cs k ord p hpl HIn.out HRt.out r hsome), rfl, hv⟩⟩
                      clear hk10 hsome hv
                      go_wp2_with fail
                      exact bodyPost_ret (v := .tuple #[v, .bool true]) (by simp [results, Tryd.results10, go_sem]) rfl HEnd.out
      · obtain rfl : p = cs.length := by omega
        have HEnd : Hid (RefEnd cs (k + 1) ord w (.returned (.tuple #[.slice none 0 0, .bool false])) wr) := ⟨HK.out, .inl ⟨HAll.out.trans (refFrom_end cs k ord _ (Nat.le_refl _)), rfl⟩⟩
        go_wp2_with fail
        exact bodyPost_ret (v := .tuple #[.slice none 0 0, .bool false]) (by simp [results, Tryd.results10, go_sem]) rfl HEnd.out
end Ord
end Go.Proofs.YtnjcmhpifdaheaaDoor
