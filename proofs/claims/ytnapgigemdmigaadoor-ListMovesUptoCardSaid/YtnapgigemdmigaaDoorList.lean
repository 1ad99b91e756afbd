/- Contracts of list's walker: aligned, add, whole. -/
import Derived.Test.YtnapgigemdmigaaDoorListLaw
import Derived.Test.YtnapgigemdmigaaDoorMem
import Derived.Test.YtnapgigemdmigaaDoorBytes
import Derived.Test.YtnapgigemdmigaaDoorOwn
import Derived.Test.YtnapgigemdmigaaDoorPick
import Derived.Lib.MinMax
namespace Go.Proofs.YtnapgigemdmigaaDoor
open Go.RowKit Go.WideShapes
set_option linter.unusedVariables false

def shapeErr : Value := .iface 29 (.int .i64 2)

theorem aligned_any (x n : Int) (w : World) (hx0 : -9223372036854775808 ≤ x) (hx1 : x ≤ 9223372036854775807) (hn : 0 < n) (hn1 : n ≤ 4096) :
    Calls Tryd.prog 40 #[.int .i64 x, .int .i64 n] w fun e w' => e = .returned (.bool (decide (0 ≤ x ∧ x % n = 0))) ∧ w = w' := by
  have hz : ((n : Int) == 0) = false := by simp; omega
  by_cases h : 0 ≤ x
  · go_enter Tryd.func40, Tryd.ntmps40
    go_wp2
    go_ret
    exact ⟨ret_bool (by rw [Bool.eq_iff_iff]; simp [h]), rfl⟩
  · go_enter Tryd.func40, Tryd.ntmps40
    go_wp2
    go_ret
    exact ⟨ret_bool (by rw [Bool.eq_iff_iff]; simp; omega), rfl⟩

/-- segments as cells -/
def segCells (l : List (Int × Int)) : List Value := l.flatMap fun s => [.int .i64 s.1, .int .i64 s.2]
theorem segCells_append (a b : List (Int × Int)) : segCells (a ++ b) = segCells a ++ segCells b := by simp [segCells]

/-- A walker: its block, what is left, its segments. -/
def WalkAt (w : World) (wb b : Nat) (left : Int) (segs : List (Int × Int)) : Prop :=
  ∃ v, Blk w wb #[.pointer (some ⟨b, 0, none⟩), .int .i64 left, v] 102 ∧ w.ownsRow (wb + 1) 43 2 v segs.length (segCells segs)

theorem MemAt.under {w w' : World} {b mb B : Nat} {bs : List Int} (h : MemAt w b mb bs) (hb : Below B w w') (h1 : b < B) (h2 : mb < B) : MemAt w' b mb bs :=
  ⟨by have := h.head; unfold Blk at *; rw [hb.block _ h1]; exact this, by have := h.body; unfold Blk at *; rw [hb.block _ h2]; exact this, h.apart, h.most, h.byte⟩

set_option maxHeartbeats 2000000 in
theorem walker_add_bad (wb b mb : Nat) (bs : List Int) (x room left : Int) (segs : List (Int × Int)) (w : World) (hm : MemAt w b mb bs) (hw : WalkAt w wb b left segs)
    (x0 : -9223372036854775808 ≤ x) (x1 : x ≤ 9223372036854775807) (hr0 : 0 ≤ room) (hr1 : room ≤ 64) (hl0 : 0 ≤ left) (hl1 : left ≤ 2048) (hf : memFits bs.length x (min room left) = false) :
    Calls Tryd.prog 43 #[.pointer (some ⟨wb, 0, none⟩), .int .i64 x, .int .i64 room] w fun e w' => e = .returned memRangeErr ∧ w = w' := by
  obtain ⟨v, hb, _⟩ := hw
  have c0 := hb.cell 0
  have c1 := hb.cell 1
  simp only [List.getElem?_toArray, List.getElem?_cons_zero, List.getElem?_cons_succ] at c0 c1
  have HM := Lib.hid hm
  have hmost := hm.most
  have HF : Hid (x < 0 ∨ min room left < 0 ∨ (bs.length : Int) < min room left ∨ (bs.length : Int) - min room left < x) := by
    have : ¬ (0 ≤ x ∧ 0 ≤ min room left ∧ min room left ≤ bs.length ∧ x ≤ bs.length - min room left) := of_decide_eq_false hf
    show _ ∨ _ ∨ _ ∨ _
    omega
  clear hm hb hf
  have hn0 : 0 ≤ min room left := by omega
  have hn1 : min room left ≤ 64 := by omega
  generalize hmin : min room left = n at *
  go_enter Tryd.func43, Tryd.ntmps43
  go_wp2_with fail
  clear hmin
  refine (mem_read_bad b mb bs x n w HM.out x0 x1 (by omega) (by omega) HF.out).mono ?_
  rintro e w' ⟨rfl, rfl⟩
  unfold memRangeErr
  go_wp2
  go_ret
  exact ⟨rfl, rfl⟩

/-- two cells that were just laid in a block of their own -/
theorem two_news (w : World) (v u : Value) (t : TypeId) (ad : Addr) (had : ad = ⟨w.heap.size, 0, none⟩) : ∀ j x, [v, u][j]? = some x → (w.alloc (.cells #[v, u] t)).cell? (ad.add j) = some x := by
  intro j x hj
  subst had
  match j, hj with
  | 0, hj => simp at hj; subst hj; simp [Addr.add]
  | 1, hj => simp at hj; subst hj; simp [Addr.add]

set_option maxHeartbeats 4000000 in
theorem walker_add_ok (wb b mb : Nat) (bs : List Int) (x room left : Int) (segs : List (Int × Int)) (w : World) (hm : MemAt w b mb bs) (hw : WalkAt w wb b left segs) (hb1 : b < wb) (hb2 : mb < wb) (hsl : segs.length ≤ 4096)
    (hr0 : 0 ≤ room) (hr1 : room ≤ 64) (hl0 : 0 ≤ left) (hl1 : left ≤ 2048) (hf : memFits bs.length x (min room left) = true) :
    Calls Tryd.prog 43 #[.pointer (some ⟨wb, 0, none⟩), .int .i64 x, .int .i64 room] w fun e w' => e = .returned .nilIface ∧ WalkAt w' wb b (left - min room left) (segs ++ [(x, min room left)]) ∧ Below wb w w' := by
  obtain ⟨i0, hi, hz0', hz1, hz2⟩ := info_parts (P := Tryd.prog) (e := 43) (z := .agg #[.int .i64 0, .int .i64 0]) (size := 2) (bytes := 16) (by kernel_rfl)
  have Hi := Lib.hid hi
  have Hz0 := Lib.hid hz0'
  have Hz1 := Lib.hid hz1
  have Hz2 := Lib.hid hz2
  clear hi hz0' hz1 hz2
  obtain ⟨v, hb, hown⟩ := hw
  have hwl := hb.lt
  have c0 := hb.cell 0
  have c1 := hb.cell 1
  simp only [List.getElem?_toArray, List.getElem?_cons_zero, List.getElem?_cons_succ] at c0 c1
  have HM := Lib.hid hm
  have hmost := hm.most
  have HF := (memFits_iff _ _ _).1 hf
  have HB := Lib.hid hb
  have HO := Lib.hid hown
  clear hm hb hf hown
  obtain ⟨n, hmin⟩ := Int.eq_ofNat_of_zero_le (show 0 ≤ min room left by omega)
  rw [hmin] at HF ⊢
  have hnl : (n : Int) ≤ left := by omega
  have hn64 : n ≤ 64 := by omega
  obtain ⟨p, rfl⟩ := Int.eq_ofNat_of_zero_le HF.1
  have hpn : p + n ≤ bs.length := by omega
  clear HF
  go_enter Tryd.func43, Tryd.ntmps43
  go_wp2_with fail
  clear hmin c0 c1
  refine (mem_read_ok b mb bs p n w HM.out hpn).mono ?_
  rintro e w1 ⟨g, cap, rfl, _, hbel⟩
  have hb3 : Blk w1 wb _ _ := (show w1.heap[wb]? = _ by rw [hbel.block _ hwl]; exact HB.out)
  have ho3 : w1.ownsRow (wb + 1) 43 2 v segs.length (segCells segs) := own_below HO.out hbel
  have c1 := hb3.cell 1
  have c2 := hb3.cell 2
  simp only [List.getElem?_toArray, List.getElem?_cons_zero, List.getElem?_cons_succ] at c1 c2
  have f1 := hb3.free 1
  have f2 := hb3.free 2
  have hs1 := hbel.size
  have HB3 := Lib.hid hb3
  have HO3 := Lib.hid ho3
  have HBel := Lib.hid hbel
  clear hb3 ho3 hbel HB HO
  go_wp2_with (at_builtin; refine wpList_append_own _ rfl _ _ 39 rfl (wb + 1) 43 i0 (.agg #[.int .i64 0, .int .i64 0]) 2 16 Tryd.underlying39 Hi.out Hz0.out Hz1.out Hz2.out rfl (by decide) _ _ _ rfl (HO3.out.alloc _) ⟨w1.heap.size, 0, none⟩ 1 1 [.int .i64 p, .int .i64 n] rfl rfl ?c1 ?c2 ?c3 ?c4 ?c5 ?_)
  case c1 => exact two_news _ _ _ _ _ rfl
  case c2 => intro u hu; simp at hu; rcases hu with rfl | rfl <;> rfl
  case c3 => unfold maxLen; omega
  case c4 => omega
  case c5 => show wb + 1 ≤ (World.alloc _ _).heap.size; simp; omega
  intro v' w6 hown' hgrow _
  obtain ⟨g', cap', rfl, _⟩ := own_form hown' (by omega)
  have hb6 : Blk w6 wb _ _ := (HB3.out.alloc (.cells #[.int .i64 p, .int .i64 n] 43)).grown hgrow (fun k hk => by have := (HO3.out.lt k hk).1; omega)
  have hbel6 : Below wb w w6 := ((HBel.out.mono (Nat.le_of_lt hwl)).alloc (by omega) (.cells #[.int .i64 p, .int .i64 n] 43)).grown hgrow (by simp; omega) (fun k hk => by have := (HO3.out.lt k hk).1; omega)
  have c1 := hb6.cell 1
  have c2 := hb6.cell 2
  simp only [List.getElem?_toArray, List.getElem?_cons_zero, List.getElem?_cons_succ] at c1 c2
  have f1 := hb6.free 1
  have f2 := hb6.free 2
  have HB6 := Lib.hid hb6
  have HO6 := Lib.hid hown'
  have HBel6 := Lib.hid hbel6
  clear hb6 hown' hbel6 hgrow HB3 HO3 HBel
  go_wp2
  go_ret
  refine ⟨rfl, Exists.intro (.slice (some ⟨g', 0, none⟩) (segs.length + 1) cap') ⟨?_, ?_⟩, ?_⟩
  · have := (HB6.out.set 2 (.slice (some ⟨g', 0, none⟩) (segs.length + 1) cap')).set 1 (.int .i64 (left - n))
    simpa using this
  · have hk : Keep (· = wb) w6 ((w6.setCell ⟨wb, 2, none⟩ (.slice (some ⟨g', 0, none⟩) (segs.length + 1) cap')).setCell ⟨wb, 1, none⟩ (.int .i64 (left - n))) := ((Keep.refl (· = wb) _).setCell (.inl rfl) _).setCell (.inl rfl) _
    have h2 := own_keep HO6.out hk (fun k hk => by omega)
    rw [segCells_append, List.length_append]
    exact h2
  · exact (HBel6.out.setCell (p := ⟨wb, 2, none⟩) (Nat.le_refl _) _).setCell (p := ⟨wb, 1, none⟩) (Nat.le_refl _) _
end Go.Proofs.YtnapgigemdmigaaDoor
