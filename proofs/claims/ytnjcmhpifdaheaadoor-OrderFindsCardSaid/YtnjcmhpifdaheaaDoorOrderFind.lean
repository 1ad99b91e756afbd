/- Contract of order.Find. -/
import Derived.Test.YtnjcmhpifdaheaaDoorOrderSearch
import Derived.Test.YtnjcmhpifdaheaaDoorOrderCheck
import Derived.Laws.MakeOwn
import Derived.Laws.Cover3
import Derived.Deep.OwnRows
import Derived.Lib.SliceRun
namespace Go.Proofs.YtnjcmhpifdaheaaDoor
open Go.RowKit
set_option linter.unusedVariables false
namespace Ord

/-- how Find ends -/
def FindEnd (cs : List OCall) (w : World) (e : Ending) (w' : World) : Prop :=
  Keep (fun _ => False) w w' ∧ ((fault cs ≠ 0 ∧ e = .returned (.tuple #[.slice none 0 0, errO (fault cs)])) ∨
    (fault cs = 0 ∧ first cs cs.length start = none ∧ e = .returned (.tuple #[.slice none 0 0, errO 4])) ∨
    (fault cs = 0 ∧ ∃ r v, first cs cs.length start = some r ∧ e = .returned (.tuple #[v, .nilIface]) ∧ LAt w' v r))

def aheadAt (cs : List OCall) (i m q : Nat) : Nat := if q < i then aheadN cs q else if q = i then aheadTo cs i m else 0
def aheadFill (cs : List OCall) (i m : Nat) : Array Value := ((List.range cs.length).map fun q => Value.int .u16 ((aheadAt cs i m q : Nat) : Int)).toArray
theorem aheadFill_get (cs : List OCall) (i m q : Nat) (h : q < cs.length) : (aheadFill cs i m)[q]? = some (.int .u16 ((aheadAt cs i m q : Nat) : Int)) := by
  simp [aheadFill, h]
theorem aheadFill_ext {cs : List OCall} {A : Array Value} {i m : Nat} (hs : A.size = cs.length) (h : ∀ q, q < cs.length → A[q]? = some (.int .u16 ((aheadAt cs i m q : Nat) : Int))) : A = aheadFill cs i m := by
  apply Array.ext_getElem?
  intro q
  by_cases hq : q < cs.length
  · rw [h q hq, aheadFill_get cs i m q hq]
  · rw [Array.getElem?_eq_none (by omega), Array.getElem?_eq_none (by simp [aheadFill]; omega)]
theorem aheadFill_start (cs : List OCall) : madeCells #[.int .u16 0] cs.length = aheadFill cs 0 0 := by
  refine aheadFill_ext (by simp [madeCells]) fun q hq => ?_
  have e : aheadAt cs 0 0 q = 0 := by
    unfold aheadAt
    rw [if_neg (by omega)]
    split
    · rfl
    · rfl
  rw [e]
  simp [madeCells, hq, Nat.mod_one]
theorem aheadFill_end (cs : List OCall) : aheadFill cs cs.length 0 = aheadCells cs := by
  unfold aheadFill aheadCells
  congr 1
  refine List.map_congr_left fun q hq => ?_
  rw [aheadAt, if_pos (List.mem_range.1 hq)]
theorem aheadFill_next (cs : List OCall) (i : Nat) : aheadFill cs i cs.length = aheadFill cs (i + 1) 0 := by
  unfold aheadFill
  congr 1
  refine List.map_congr_left fun q hq => ?_
  unfold aheadAt
  by_cases h1 : q < i
  · rw [if_pos h1, if_pos (by omega)]
  · by_cases h2 : q = i
    · subst h2; rw [if_neg h1, if_pos rfl, if_pos (by omega)]; rfl
    · rw [if_neg h1, if_neg h2, if_neg (by omega)]
      split
      · rfl
      · rfl
theorem aheadTo_skip (cs : List OCall) (i m : Nat) (h : ¬ (at_ cs m).to_ ≤ (at_ cs i).fr) : aheadTo cs i (m + 1) = aheadTo cs i m := by
  rw [aheadTo, if_neg h]
theorem aheadTo_take (cs : List OCall) (i m : Nat) (h : (at_ cs m).to_ ≤ (at_ cs i).fr) : aheadTo cs i (m + 1) = aheadTo cs i m ||| 1 <<< m := by
  rw [aheadTo, if_pos h]
theorem aheadFill_skip (cs : List OCall) (i m : Nat) (h : ¬ (at_ cs m).to_ ≤ (at_ cs i).fr) : aheadFill cs i (m + 1) = aheadFill cs i m := by
  unfold aheadFill aheadAt
  rw [aheadTo_skip cs i m h]
theorem aheadFill_take (cs : List OCall) (i m : Nat) (hi : i < cs.length) (h : (at_ cs m).to_ ≤ (at_ cs i).fr) : (aheadFill cs i m).setIfInBounds i (.int .u16 ((aheadTo cs i m ||| 1 <<< m : Nat) : Int)) = aheadFill cs i (m + 1) := by
  refine aheadFill_ext (by simp [aheadFill]) fun q hq => ?_
  rw [Array.getElem?_setIfInBounds]
  by_cases e : i = q
  · subst e
    rw [if_pos rfl, if_pos (by simp [aheadFill]; exact hi), aheadAt, if_neg (by omega), if_pos rfl, aheadTo_take cs i m h]
  · rw [if_neg e, aheadFill_get cs i m q hq]
    unfold aheadAt
    split
    · rfl
    · rw [if_neg (fun x => e x.symm), if_neg (fun x => e x.symm)]

structure FindAt (cs : List OCall) (sb db ab cb off cap : Nat) (w : World) (i m : Nat) (wr : World) : Prop where
  keep : Keep (fun _ => False) w wr
  search : Blk wr sb #[.slice (some ⟨cb, off, none⟩) cs.length cap, .slice (some ⟨ab, 0, none⟩) cs.length cs.length, .map (some db)] 45
  ahead : Blk wr ab (aheadFill cs i m) 46
  dead : wr.ownsMap Tryd.prog 52 (plainElem Tryd.prog 3) db 0 (.map [] : MapD)
  calls : CallsAt wr cb off cs
theorem FindAt.alloc {cs : List OCall} {sb db ab cb off cap : Nat} {w : World} {i m : Nat} {wr : World} (h : FindAt cs sb db ab cb off cap w i m wr) (o : Obj) : FindAt cs sb db ab cb off cap w i m (wr.alloc o) :=
  ⟨h.keep.alloc _, h.search.alloc _, h.ahead.alloc _, h.dead.alloc _, h.calls.keep (S := fun _ => False) ((Keep.refl _ _).alloc _) (fun q => q)⟩
theorem FindAt.to {cs : List OCall} {sb db ab cb off cap : Nat} {w : World} {i m i' m' : Nat} {wr : World} (h : FindAt cs sb db ab cb off cap w i m wr) (e : aheadFill cs i m = aheadFill cs i' m') : FindAt cs sb db ab cb off cap w i' m' wr :=
  ⟨h.keep, h.search, h.ahead.of e, h.dead, h.calls⟩

set_option maxRecDepth 100000 in
set_option maxHeartbeats 8000000 in
theorem order_find (w : World) (a : Option Addr) (cap : Nat) (cs : List OCall) (hc : IsCalls w a cs) (hl : cs.length ≤ 9223372036854775807) :
    Calls Tryd.prog 7 #[.slice a cs.length cap] w (FindEnd cs w) := by
  have HChk := Lib.hid (order_check w a cap cs hc hl)
  have HC := Lib.hid hc
  clear hc
  by_cases hf : fault cs = 0
  · obtain ⟨h10, hpos⟩ := fault_ok hf
    have hen : errO (fault cs) = .nilIface := by unfold errO; rw [if_pos hf]
    have HF := Lib.hid hf
    have HPos := Lib.hid hpos
    by_cases h0 : cs.length = 0
    · have HEnd : Hid (∀ w', Keep (fun _ => False) w w' → FindEnd cs w (.returned (.tuple #[.slice none 0 0, .nilIface])) w') := fun w' hk =>
        ⟨hk, .inr (.inr ⟨HF.out, [], .slice none 0 0, by rw [h0]; rfl, rfl, .inl ⟨rfl, rfl⟩⟩)⟩
      have hd0 : ((cs.length : Int) == 0) = true := by simp [h0]
      clear hf hpos h0
      go_enter Tryd.func7, Tryd.ntmps7
      go_wp2_with fail
      refine HChk.out.mono ?_
      rintro e w1 ⟨rfl, hk1⟩
      rw [hen]
      have HK1 := Lib.hid hk1
      clear hk1
      go_wp2_with fail
      exact bodyPost_ret (v := .tuple #[.slice none 0 0, .nilIface]) (by simp [results, Tryd.results7, go_sem]) rfl (HEnd.out _ HK1.out)
    · obtain ⟨cb, off, rfl, hca⟩ := HC.out.resolve_left h0
      have hd0 : ((cs.length : Int) == 0) = false := beq_eq_false_iff_ne.2 (by omega)
      have h1 : 1 ≤ cs.length := by omega
      have hmk := fun (w : World) => run_make_row' (P := Tryd.prog) 42 46 (.int .u16 0) 2 Tryd.underlying42 (by kernel_rfl) rfl .i64 .i64 cs.length (by omega) (by omega) w
      have hmm := @run_makeMap Tryd.prog
      have HCa := Lib.hid hca
      clear hf hpos h0 hca
      go_enter Tryd.func7, Tryd.ntmps7
      go_wp2_with fail
      refine HChk.out.mono ?_
      rintro e w1 ⟨rfl, hk1⟩
      rw [hen]
      have HK1 := Lib.hid hk1
      clear hk1
      go_wp2_with fail
      have HAt0 : Hid (FindAt cs (w1.heap.size + 1 + 1) (w1.heap.size + 1) w1.heap.size cb off cap w 0 0 (((w1.alloc (.cells (madeCells #[.int .u16 0] cs.length) 46)).alloc (.map #[] 0)).alloc (.cells #[.slice (some ⟨cb, off, none⟩) cs.length cap, .slice (some ⟨w1.heap.size, 0, none⟩) cs.length cs.length, .map (some (w1.heap.size + 1))] 45))) := by
        have e1 : (w1.alloc (.cells (madeCells #[.int .u16 0] cs.length) 46)).heap.size = w1.heap.size + 1 := by simp
        have e2 : ((w1.alloc (.cells (madeCells #[.int .u16 0] cs.length) 46)).alloc (.map #[] 0)).heap.size = w1.heap.size + 1 + 1 := by simp
        refine ⟨((HK1.out.alloc _).alloc _).alloc _, ?_, ((Blk.new w1 _ _).alloc _).alloc _ |>.of (aheadFill_start cs), ?_, HCa.out.keep (S := fun _ => False) (((HK1.out.alloc _).alloc _).alloc _) (fun q => q)⟩
        · rw [← e2]; exact Blk.new _ _ _
        · have := World.ownsMap_made (H := Unit) (w1.alloc (.cells (madeCells #[.int .u16 0] cs.length) 46)) Tryd.prog 52 (plainElem Tryd.prog 3)
          rw [e1] at this
          exact this.alloc _
      generalize ((w1.alloc (.cells (madeCells #[.int .u16 0] cs.length) 46)).alloc (.map #[] 0)).alloc (.cells #[.slice (some ⟨cb, off, none⟩) cs.length cap, .slice (some ⟨w1.heap.size, 0, none⟩) cs.length cs.length, .map (some (w1.heap.size + 1))] 45) = w2 at *
      have hwsz : w.heap.size ≤ w1.heap.size := HK1.out.size
      generalize w1.heap.size = ab at *
      clear hmk HK1
      go_loopw [28] (fun i wr => ∃ j : Nat, j ≤ cs.length ∧ i = .int .i64 j ∧ FindAt cs (ab + 1 + 1) (ab + 1) ab cb off cap w j 0 wr) (fun i _ => cs.length - (intOf i).toNat)
      case atStart => exact ⟨0, Nat.zero_le _, rfl, HAt0.out⟩
      case round =>
        obtain ⟨j, hj, rfl, hat⟩ := hrel
        by_cases hjl : j < cs.length
        · have hcell := hat.calls.2.1 j hjl
          have hclr := hat.calls.1
          obtain ⟨⟨fr, to_, isw, lba, val⟩, hatj⟩ : ∃ c, at_ cs j = c := ⟨_, rfl⟩
          rw [hatj] at hcell
          have c0 : wr.cell? ⟨cb, off + j * 5, none⟩ = some (.int .i64 fr) := hcell 0 _ rfl
          have c1 : wr.cell? ⟨cb, off + j * 5 + 1, none⟩ = some (.int .i64 to_) := hcell 1 _ rfl
          have c2 : wr.cell? ⟨cb, off + j * 5 + 2, none⟩ = some (.bool isw) := hcell 2 _ rfl
          have c3 : wr.cell? ⟨cb, off + j * 5 + 3, none⟩ = some (.int .i64 lba) := hcell 3 _ rfl
          have c4 : wr.cell? ⟨cb, off + j * 5 + 4, none⟩ = some (.int .i64 val) := hcell 4 _ rfl
          have HAtj := Lib.hid hatj
          have HR := Lib.hid hat
          clear hcell hatj hat
          go_wp2_with fail
          rename World => w5
          have HR5 := Lib.hid (HR.out.alloc (.cells #[.int .i64 fr, .int .i64 to_, .bool isw, .int .i64 lba, .int .i64 val] 39))
          have HB5 := Lib.hid (Blk.new w5 #[.int .i64 fr, .int .i64 to_, .bool isw, .int .i64 lba, .int .i64 val] 39)
          have hsz5 : (w5.alloc (.cells #[.int .i64 fr, .int .i64 to_, .bool isw, .int .i64 lba, .int .i64 val] 39)).heap.size = w5.heap.size + 1 := by simp
          have HNe : Hid (w5.heap.size ≠ ab ∧ ab < w5.heap.size ∧ ab + 1 + 1 < w5.heap.size) := ⟨by have := HR.out.ahead.lt; omega, HR.out.ahead.lt, HR.out.search.lt⟩
          clear c0 c1 c2 c3 c4 HR
          generalize w5.alloc (.cells #[.int .i64 fr, .int .i64 to_, .bool isw, .int .i64 lba, .int .i64 val] 39) = w6 at *
          generalize w5.heap.size = gc at *
          go_loopw [35] (fun i wr => ∃ m : Nat, m ≤ cs.length ∧ i = .int .i64 m ∧ FindAt cs (ab + 1 + 1) (ab + 1) ab cb off cap w j m wr ∧ Blk wr gc #[.int .i64 fr, .int .i64 to_, .bool isw, .int .i64 lba, .int .i64 val] 39) (fun i _ => cs.length - (intOf i).toNat)
          case atStart => exact ⟨0, Nat.zero_le _, rfl, HR5.out, HB5.out⟩
          case round =>
            obtain ⟨m, hm, rfl, hat, hgc⟩ := hrel
            have HNe2 : Hid (gc < wr.heap.size) := hgc.lt
            by_cases hml : m < cs.length
            · have hcell := hat.calls.2.1 m hml
              have hclr2 := hat.calls.1
              obtain ⟨⟨fr1, to1, isw1, lba1, val1⟩, hatm⟩ : ∃ c, at_ cs m = c := ⟨_, rfl⟩
              rw [hatm] at hcell
              have c0 : wr.cell? ⟨cb, off + m * 5, none⟩ = some (.int .i64 fr1) := hcell 0 _ rfl
              have c1 : wr.cell? ⟨cb, off + m * 5 + 1, none⟩ = some (.int .i64 to1) := hcell 1 _ rfl
              have c2 : wr.cell? ⟨cb, off + m * 5 + 2, none⟩ = some (.bool isw1) := hcell 2 _ rfl
              have c3 : wr.cell? ⟨cb, off + m * 5 + 3, none⟩ = some (.int .i64 lba1) := hcell 3 _ rfl
              have c4 : wr.cell? ⟨cb, off + m * 5 + 4, none⟩ = some (.int .i64 val1) := hcell 4 _ rfl
              have p0 : wr.cell? ⟨gc, 0, none⟩ = some (.int .i64 fr) := hgc.cell 0
              have hgl : gc < wr.heap.size := hgc.lt
              have HAtm := Lib.hid hatm
              have HR := Lib.hid hat
              have HG := Lib.hid hgc
              clear hcell hatm hat hgc
              by_cases hto : to1 ≤ fr
              · have d0 : decide (to1 ≤ fr) = true := decide_eq_true hto
                have HTake := Lib.hid (aheadFill_take cs j m hjl (by rw [HAtm.out, HAtj.out]; exact hto))
                have e1 : wr.cell? ⟨ab + 1 + 1, 1, none⟩ = some (.slice (some ⟨ab, 0, none⟩) cs.length cs.length) := HR.out.search.cell 1
                have hab : ab < wr.heap.size := HR.out.ahead.lt
                have hsl : ab + 1 + 1 < wr.heap.size := HR.out.search.lt
                have ha : wr.cell? ⟨ab, j, none⟩ = some (.int .u16 ((aheadTo cs j m : Nat) : Int)) := by
                  rw [HR.out.ahead.cell, aheadFill_get cs j m j hjl, aheadAt, if_neg (by omega), if_pos rfl]
                have hfa : wr.frozen? ⟨ab, j, none⟩ = false := HR.out.ahead.free j
                have hsh := sh_eq m (by omega)
                have hor := or_eq (aheadTo cs j m) m (aheadTo_lt cs j m (by omega)) (by omega)
                have HNx : Hid (∀ c : Array Value, ∀ W, W = ((wr.setCell ⟨ab, j, none⟩ (.int .u16 ((aheadTo cs j m ||| 1 <<< m : Nat) : Int))).alloc (.cells c 39)).drew → FindAt cs (ab + 1 + 1) (ab + 1) ab cb off cap w j (m + 1) W ∧ Blk W gc #[.int .i64 fr, .int .i64 to_, .bool isw, .int .i64 lba, .int .i64 val] 39) := fun c W hW => by
                  subst hW
                  have h1 := HR.out
                  have hks : Keep (fun z => z = ab) wr (wr.setCell ⟨ab, j, none⟩ (.int .u16 ((aheadTo cs j m ||| 1 <<< m : Nat) : Int))) := (Keep.refl (fun z => z = ab) wr).setCell (p := ⟨ab, j, none⟩) (.inl rfl) _
                  have h2 : FindAt cs (ab + 1 + 1) (ab + 1) ab cb off cap w j (m + 1) (wr.setCell ⟨ab, j, none⟩ (.int .u16 ((aheadTo cs j m ||| 1 <<< m : Nat) : Int))) := by
                    refine ⟨h1.keep.setCell (.inr hwsz) _, h1.search.setOther (by show ab ≠ ab + 1 + 1; omega) _, ?_, owns_keep h1.dead hks (by show ¬ ab + 1 = ab; omega), h1.calls.keep hks (by show ¬ cb = ab; have := HCa.out.1; omega)⟩
                    have := h1.ahead.set j (.int .u16 ((aheadTo cs j m ||| 1 <<< m : Nat) : Int))
                    rw [HTake.out] at this
                    exact this
                  have h3 := h2.alloc (.cells c 39)
                  exact ⟨⟨h3.keep.drew, h3.search.drew, h3.ahead.drew, h3.dead.drew, h3.calls⟩, ((HG.out.setOther (by show ab ≠ gc; exact fun q => HNe.out.1 q.symm) _).alloc _).drew⟩
                clear hto
                go_wp2_with fail
                go_region
                go_wp2_with fail
                go_roundw
                case rel => exact ⟨m + 1, by omega, by go_num, HNx.out _ _ rfl⟩
                case measure => simp [intOf]; omega
              · have d0 : decide (to1 ≤ fr) = false := decide_eq_false hto
                have HSk := Lib.hid (aheadFill_skip cs j m (by rw [HAtm.out, HAtj.out]; exact hto))
                clear hto
                go_wp2_with fail
                go_roundw
                case rel => exact ⟨m + 1, by omega, by go_num, (HR.out.alloc _).to HSk.out.symm, HG.out.alloc _⟩
                case measure => simp [intOf]; omega
            · obtain rfl : m = cs.length := by omega
              have HR := Lib.hid (hat.to (aheadFill_next cs j))
              clear hat hgc
              go_wp2_with fail
              go_roundw
              case rel => exact ⟨j + 1, by omega, by go_num, HR.out⟩
              case measure => simp [intOf]; omega
        · obtain rfl : j = cs.length := by omega
          have hat' := hat
          clear hat
          have hneab : cb ≠ ab + 1 := by have := HCa.out.1; omega
          have HEnv : Hid (∀ o, Env cs (ab + 1 + 1) (ab + 1) ab cb off cap (wr.alloc o)) := fun o =>
            ⟨hat'.search.alloc _, (hat'.ahead.alloc _).of (aheadFill_end cs), (hat'.alloc _).calls, by omega, by omega, hneab⟩
          have hdl := hat'.dead.lt
          have hnb : wr.heap.size ≠ ab + 1 := by omega
          have HR := Lib.hid hat'
          have HSearch := Lib.hid (fun lv hlv => on_any cs h1 h10 (ab + 1 + 1) (ab + 1) ab cb off cap cs.length start [] wr.heap.size 0 (.map []) lv 0 (.map []) (wr.alloc (.map #[] 0))
            ⟨start_ok, left_start cs _, by simp, HEnv.out _, (HR.out.alloc _).dead, deadOk_start cs, World.ownsMap_made (H := Unit) wr Tryd.prog 3 (plainElem Tryd.prog 3), hnb, nowOk_start cs, hlv, by
              have : ∀ k, k ≤ 10 → cost k ≤ cost 10 := fun k hk => by
                match k, hk with
                | 0, _ => decide
                | 1, _ => decide
                | 2, _ => decide
                | 3, _ => decide
                | 4, _ => decide
                | 5, _ => decide
                | 6, _ => decide
                | 7, _ => decide
                | 8, _ => decide
                | 9, _ => decide
                | 10, _ => decide
              have h9 := this cs.length h10
              have h8 : cost 10 < 1000000000000 := by decide
              omega, by omega⟩)
          clear hat' hdl hnb
          go_wp2_with fail
          have HS0 : stV start = .agg #[.int .u16 0, .int .i8 0, .int .i8 0, .int .i8 0, .int .i8 0, .int .i8 0, .int .i8 0, .int .i8 0, .int .i8 0, .int .i8 0, .int .i8 0] := by simp [stV, stCells, start, List.replicate]
          have hS := HSearch.out (.slice none 0 0) (.inl ⟨rfl, rfl⟩)
          rw [HS0] at hS
          refine hS.mono ?_
          rintro e w9 ⟨v, n9, D9, rfl, hk9, _, _, _, hres⟩
          have HK9 := Lib.hid (show Keep (fun _ => False) w w9 from ((HR.out.keep.alloc (.map #[] 0)).mono (fun _ _ q => q.elim) |>.trans hk9).mono (fun z hz q => by omega))
          have HRes := Lib.hid hres
          clear hS hk9 hres HSearch HEnv HR
          rcases HRes.out with ⟨hno, rfl⟩ | ⟨r, hr, g, cp, rfl, hL⟩
          · have HEnd : Hid (FindEnd cs w (.returned (.tuple #[.slice none 0 0, .iface 23 (.int .i64 4)])) w9) := ⟨HK9.out, .inr (.inl ⟨HF.out, hno, rfl⟩)⟩
            have hq1 : ∀ w : World, (binOp .eql 28 (.slice none 0 0) (.slice none 0 0)).run Tryd.prog w = .ok (.bool true) w := fun w => Lib.run_eql_slice_nil w _ _ none 0 0 0 0 Tryd.underlying28
            clear hno
            go_wp2_with fail
            exact bodyPost_ret (v := .tuple #[.slice none 0 0, .iface 23 (.int .i64 4)]) (by simp [results, Tryd.results7, go_sem]) rfl HEnd.out
          · have HEnd : Hid (FindEnd cs w (.returned (.tuple #[.slice (some ⟨g, 0, none⟩) ([] ++ r).length cp, .nilIface])) w9) := ⟨HK9.out, .inr (.inr ⟨HF.out, r, _, hr, rfl, by simpa using hL⟩)⟩
            have hq1 : ∀ (w : World) (a : Addr) (l c : Nat), (binOp .eql 28 (.slice (some a) l c) (.slice none 0 0)).run Tryd.prog w = .ok (.bool false) w := fun w a l c => Lib.run_eql_slice_nil w _ _ (some a) l c 0 0 Tryd.underlying28
            clear hr hL
            generalize ([] ++ r).length = rl at *
            go_wp2_with fail
            exact bodyPost_ret (v := .tuple #[.slice (some ⟨g, 0, none⟩) rl cp, .nilIface]) (by simp [results, Tryd.results7, go_sem]) rfl HEnd.out
  · have hne : fault cs ≠ 0 := hf
    have he : errO (fault cs) = .iface 23 (.int .i64 (fault cs)) := by unfold errO; rw [if_neg hf]
    have HEnd : Hid (∀ w', Keep (fun _ => False) w w' → FindEnd cs w (.returned (.tuple #[.slice none 0 0, .iface 23 (.int .i64 (fault cs))])) w') := fun w' hk =>
      ⟨hk, .inl ⟨hne, by rw [he]⟩⟩
    clear hf hne
    go_enter Tryd.func7, Tryd.ntmps7
    go_wp2_with fail
    refine HChk.out.mono ?_
    rintro e w1 ⟨rfl, hk1⟩
    rw [he]
    have HK1 := Lib.hid hk1
    clear hk1
    go_wp2_with fail
    exact bodyPost_ret (v := .tuple #[.slice none 0 0, .iface 23 (.int .i64 (fault cs))]) (by simp [results, Tryd.results7, go_sem]) rfl (HEnd.out _ HK1.out)
end Ord
end Go.Proofs.YtnjcmhpifdaheaaDoor
