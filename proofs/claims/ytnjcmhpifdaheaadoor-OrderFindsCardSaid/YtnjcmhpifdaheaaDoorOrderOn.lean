/- Contract of the search: order's (*search).on. -/
import Derived.Test.YtnjcmhpifdaheaaDoorOrderClone
import Derived.WalkSpells
import Derived.Deep.RegionLawGrows
import Derived.Deep.DeepCutAuto
import Derived.BigQuiet
import Derived.IntWalk
import Derived.Laws.OwnMore
import Derived.Deep.AppendLies
import Derived.Laws.Cover3
namespace Go.Proofs.YtnjcmhpifdaheaaDoor
open Go.RowKit
set_option linter.unusedVariables false
namespace Ord

theorem eleven (s : OSt) (h : StOk s) : ∃ a1 a2 a3 a4 a5 a6 a7 a8 a9 a10 : Int, stCells s = #[.int .u16 ((s.done : Nat) : Int), .int .i8 a1, .int .i8 a2, .int .i8 a3, .int .i8 a4, .int .i8 a5, .int .i8 a6, .int .i8 a7, .int .i8 a8, .int .i8 a9, .int .i8 a10] := by
  have hl := h.len
  obtain ⟨d, l⟩ := s
  match l, hl with
  | [a0, a1, a2, a3, a4, a5, a6, a7, a8, a9], _ => exact ⟨_, _, _, _, _, _, _, _, _, _, rfl⟩

theorem LAt.form {w : World} {v : Value} {ord : List Nat} (h : LAt w v ord) : ∃ la lc, v = .slice la ord.length lc ∧ ord.length ≤ lc ∧ (la = none → ord.length = 0 ∧ lc = 0) ∧ ∀ b, la = some b → b.off = 0 ∧ b.spot = none ∧ ∀ i, i < ord.length → w.cell? ⟨b.block, i, none⟩ = some (.int .i64 ((ord.getD i 0 : Nat) : Int)) := by
  rcases h with ⟨rfl, rfl⟩ | ⟨g, cap, rfl, h1, h2, h3, h4⟩
  · exact ⟨none, 0, rfl, Nat.le_refl _, fun _ => ⟨rfl, rfl⟩, fun b hb => by cases hb⟩
  · exact ⟨_, cap, rfl, h2, fun h => (by cases h), fun b hb => by cases hb; exact ⟨rfl, rfl, h4⟩⟩

set_option maxRecDepth 100000 in
set_option maxHeartbeats 8000000 in
theorem on_full (cs : List OCall) (h1 : 1 ≤ cs.length) (hn : cs.length ≤ 10) (sb db ab cb off cap : Nat) (s : OSt) (ord : List Nat) (w : World) (nb n : Nat) (lv : Value) (D : MapD) (hs : StOk s) (hl : ord.length = cs.length)
    (he : Env cs sb db ab cb off cap w) (ho : w.ownsMap Tryd.prog 52 (plainElem Tryd.prog 3) db n D) (hd : DeadOk cs D) (hL : LAt w lv ord) :
    Calls Tryd.prog 13 #[.pointer (some ⟨sb, 0, none⟩), .map (some nb), stV s, lv] w (OnEnd cs 0 s ord db n w) := by
  obtain ⟨a1, a2, a3, a4, a5, a6, a7, a8, a9, a10, hst⟩ := eleven s hs
  unfold stV
  rw [hst]
  have HSt := Lib.hid hst
  have HL := Lib.hid hL
  obtain ⟨la, lc, rfl, _⟩ := hL.form
  have hcs : w.cell? ⟨sb, 0, none⟩ = some (.slice (some ⟨cb, off, none⟩) cs.length cap) := he.search.cell 0
  have hsl := he.search.lt
  have HEnd : Hid (OnEnd cs 0 s ord db n w (.returned (.slice la ord.length lc)) (w.alloc (.cells #[.int .u16 ((s.done : Nat) : Int), .int .i8 a1, .int .i8 a2, .int .i8 a3, .int .i8 a4, .int .i8 a5, .int .i8 a6, .int .i8 a7, .int .i8 a8, .int .i8 a9, .int .i8 a10] 52))) := by
    have hk : Keep (· = db) w (w.alloc (.cells #[.int .u16 ((s.done : Nat) : Int), .int .i8 a1, .int .i8 a2, .int .i8 a3, .int .i8 a4, .int .i8 a5, .int .i8 a6, .int .i8 a7, .int .i8 a8, .int .i8 a9, .int .i8 a10] 52)) := (Keep.refl _ _).alloc _
    refine ⟨_, n, D, rfl, hk, ho.alloc _, Nat.le_add_right _ _, hd, .inr ⟨[], rfl, ?_⟩⟩
    rcases HL.out with ⟨e, e2⟩ | ⟨g, c, e, h3, h4, h5, h6⟩
    · subst e2; simp at hl; omega
    · rw [List.append_nil]
      exact ⟨g, c, e, (HL.out).keep hk (owns_isMap ho).2⟩
  have hel : (ord.length : Int) = cs.length := by omega
  clear he ho hd hL hs hst
  go_enter Tryd.func13, Tryd.ntmps13
  go_wp2_with fail
  go_ret
  exact HEnd.out
theorem first_len (cs : List OCall) : ∀ (k : Nat) (s : OSt) (r : List Nat), first cs k s = some r → r.length = k
  | 0, s, r, h => by simp [first] at h; subst h; rfl
  | k + 1, s, r, h => by
    unfold first at h
    obtain ⟨l1, i, l2, _, hfi, _⟩ := List.findSome?_eq_some_iff.1 h
    split at hfi
    · obtain ⟨r', hr', rfl⟩ := Option.map_eq_some_iff.1 hfi
      simp [first_len cs k _ r' hr']
    · cases hfi
/-- a list that append has made -/
theorem lat_grown {w : World} {base : Nat} {v : Value} {ord : List Nat} {j : Nat} {xs : List Value} (hx : xs = ord.map (fun x : Nat => Value.int .i64 (x : Int))) {n : Nat} (hn : n = ord.length + 1)
    (h : w.ownsRow base 3 1 v n (xs ++ [.int .i64 (j : Int)])) : LAt w v (ord ++ [j]) := by
  subst hx hn
  obtain ⟨g, cap, rfl, _, hlt⟩ := h.form (by omega)
  have hcap : ord.length + 1 ≤ cap := by
    rcases h.2 with ⟨e, _⟩ | ⟨g', cap', cur, e, _, _, h2, _⟩
    · cases e
    · cases e; exact h2
  refine .inr ⟨g, cap, by simp, by simp, by simpa using hcap, hlt, fun i hi => ?_⟩
  rw [List.length_append] at hi
  simp at hi
  rw [h.cellAt i (by omega)]
  have e : ord.map (fun x : Nat => Value.int .i64 (x : Int)) ++ [.int .i64 (j : Int)] = (ord ++ [j]).map (fun x : Nat => Value.int .i64 (x : Int)) := by simp
  rw [e, List.getElem?_map, List.getElem?_eq_getElem (by simp; omega)]
  simp [List.getD, show i < ord.length + 1 by omega]

/-- what the search is told -/
structure OnIn (cs : List OCall) (k : Nat) (sb db ab cb off cap : Nat) (s : OSt) (ord : List Nat) (nb m : Nat) (Dn : MapD) (lv : Value) (n : Nat) (D : MapD) (w : World) : Prop where
  st : StOk s
  left : left cs s = k
  len : ord.length + k = cs.length
  env : Env cs sb db ab cb off cap w
  dead : w.ownsMap Tryd.prog 52 (plainElem Tryd.prog 3) db n D
  deadOk : DeadOk cs D
  now : w.ownsMap Tryd.prog 3 (plainElem Tryd.prog 3) nb m Dn
  nd : nb ≠ db
  nowOk : NowOk cs s Dn
  list : LAt w lv ord
  room : n + cost k < 1000000000000
  roomN : m + k < 1000000000000

set_option maxRecDepth 100000 in
set_option maxHeartbeats 8000000 in
theorem on_dead (cs : List OCall) (h1 : 1 ≤ cs.length) (hn : cs.length ≤ 10) (k sb db ab cb off cap : Nat) (s : OSt) (ord : List Nat) (nb m : Nat) (Dn : MapD) (lv : Value) (n : Nat) (D : MapD) (w : World) (hI : OnIn cs (k + 1) sb db ab cb off cap s ord nb m Dn lv n D w)
    (hdead : D.atKey (skey s) (.lit (.int .i64 0)) = .lit (.int .i64 1)) :
    Calls Tryd.prog 13 #[.pointer (some ⟨sb, 0, none⟩), .map (some nb), stV s, lv] w (OnEnd cs (k + 1) s ord db n w) := by
  obtain ⟨a1, a2, a3, a4, a5, a6, a7, a8, a9, a10, hst⟩ := eleven s hI.st
  have hsv : stV s = .agg #[.int .u16 ((s.done : Nat) : Int), .int .i8 a1, .int .i8 a2, .int .i8 a3, .int .i8 a4, .int .i8 a5, .int .i8 a6, .int .i8 a7, .int .i8 a8, .int .i8 a9, .int .i8 a10] := by unfold stV; rw [hst]
  rw [hsv]
  have HSt := Lib.hid hst
  have HI := Lib.hid hI
  have HD := Lib.hid hdead
  obtain ⟨la, lc, rfl, _⟩ := hI.list.form
  have hcs : w.cell? ⟨sb, 0, none⟩ = some (.slice (some ⟨cb, off, none⟩) cs.length cap) := hI.env.search.cell 0
  have hdc : w.cell? ⟨sb, 2, none⟩ = some (.map (some db)) := hI.env.search.cell 2
  have hsl := hI.env.search.lt
  have hlt : ord.length < cs.length := by have := hI.len; omega
  have hzero : ∀ W, (zeroValue 3).run Tryd.prog W = .ok (.int .i64 0) W := fun W => by kernel_rfl
  obtain ⟨w1, hw1⟩ : ∃ w1, w1 = (w.alloc (.cells #[.int .u16 ((s.done : Nat) : Int), .int .i8 a1, .int .i8 a2, .int .i8 a3, .int .i8 a4, .int .i8 a5, .int .i8 a6, .int .i8 a7, .int .i8 a8, .int .i8 a9, .int .i8 a10] 52)).drew := ⟨_, rfl⟩
  have hlk : ∃ c, (Instr.lookup 43 (.map (some db)) (.agg #[.int .u16 ((s.done : Nat) : Int), .int .i8 a1, .int .i8 a2, .int .i8 a3, .int .i8 a4, .int .i8 a5, .int .i8 a6, .int .i8 a7, .int .i8 a8, .int .i8 a9, .int .i8 a10]) false).run Tryd.prog w1 = .ok (.int .i64 c) w1 ∧ D.atKey (skey s) (.lit (.int .i64 0)) = .lit (.int .i64 c) ∧ (Lit.int .i64 c).wf = true :=
    World.ownsMap.lookup_int (by rw [hw1]; exact (hI.dead.alloc _).drew) dead_keyed Tryd.underlying43 Tryd.underlying3 (hzero w1) (by rw [← hsv]; exact skey_of hI.st)
  obtain ⟨c, hlk, hat, _⟩ := hlk
  rw [hw1] at hlk
  have hc : c = 1 := by rw [hdead] at hat; simpa using hat.symm
  subst hc
  have HEnd : Hid (∀ W, Keep (· = db) w W → W.ownsMap Tryd.prog 52 (plainElem Tryd.prog 3) db n D → OnEnd cs (k + 1) s ord db n w (.returned (.slice none 0 0)) W) := fun W hk hown =>
    ⟨_, n, D, rfl, hk, hown, Nat.le_add_right _ _, HI.out.deadOk, .inl ⟨by have := HI.out.deadOk s HI.out.st HD.out; rw [HI.out.left] at this; exact this, rfl⟩⟩
  clear hI hst hw1 hat hsv hdead
  go_enter Tryd.func13, Tryd.ntmps13
  go_wp2_with fail
  go_region
  go_wp2_with fail
  go_ret
  exact HEnd.out _ (((Keep.refl _ _).alloc _).drewN _) ((HI.out.dead.alloc _).drew)
theorem name_before (cs : List OCall) (j q : Nat) (h : q < nameOf cs j) : (at_ cs q).lba ≠ (at_ cs j).lba := by
  have hq : q < cs.length := Nat.lt_of_lt_of_le h List.findIdx_le_length
  have := List.not_of_lt_findIdx (xs := cs) (p := fun c => decide (c.lba = (at_ cs j).lba)) (i := q) (show q < cs.findIdx (fun c => decide (c.lba = (at_ cs j).lba)) from h)
  have e : at_ cs q = cs[q] := by simp [at_, List.getD, hq]
  rw [e]
  exact of_decide_eq_false (by simpa using this)

theorem i8_eq (j : Nat) (hj : j < 10) : IntKind.i8.wrap ((j : Int) + 1) = (j : Int) + 1 := by
  have : ∀ j : Fin 10, IntKind.i8.wrap ((j.val : Int) + 1) = (j.val : Int) + 1 := by decide
  exact this ⟨j, hj⟩
theorem sh_eq (j : Nat) (hj : j < 10) : IntKind.u16.wrap (2 ^ j) = 2 ^ j := by
  have : ∀ j : Fin 10, IntKind.u16.wrap (2 ^ j.val) = 2 ^ j.val := by decide
  exact this ⟨j, hj⟩
theorem or_eq (d j : Nat) (hd : d < 65536) (hj : j < 10) : bits .or .u16 ((d : Nat) : Int) (2 ^ j) = ((d ||| 1 <<< j : Nat) : Int) := by
  have h2 : 2 ^ j < 65536 := Nat.lt_of_lt_of_le (Nat.pow_lt_pow_right (a := 2) (by omega) hj) (by decide)
  have := u16_or_nat d (2 ^ j) hd h2
  rw [show ((2 ^ j : Nat) : Int) = 2 ^ j by push_cast; rfl] at this
  rw [this, Nat.one_shiftLeft]
/-- call j is laid into the state, and into the map if it writes -/
structure OnMid (cs : List OCall) (s : OSt) (j db m gs : Nat) (w2 : World) (tb : Nat) (wx : World) : Prop where
  keep : Keep (fun _ => False) w2 wx
  st : Blk wx gs (stCells (next cs s j)) 52
  now : ∃ D m', wx.ownsMap Tryd.prog 3 (plainElem Tryd.prog 3) tb m' D ∧ m' ≤ m + 1 ∧ NowOk cs (next cs s j) D
  nd : tb ≠ db

/-- where the loop over the calls stands: the first j calls lead to no order -/
structure OnRel (cs : List OCall) (k : Nat) (s : OSt) (db n : Nat) (w1 : World) (j : Nat) (wr : World) : Prop where
  keep : Keep (· = db) w1 wr
  own : ∃ n' D, wr.ownsMap Tryd.prog 52 (plainElem Tryd.prog 3) db n' D ∧ n' ≤ n + j * cost k ∧ DeadOk cs D
  here : first cs (k + 1) s = firstFrom cs k s j

theorem OnRel.skip {cs : List OCall} {k : Nat} {s : OSt} {db n : Nat} {w1 : World} {j : Nat} {wr wx : World} (h : OnRel cs k s db n w1 j wr) (hj : j < cs.length) (ho : ok cs s j = false) (hk : Keep (· = db) wr wx) (hown : ∀ n' (D : MapD), wr.ownsMap Tryd.prog 52 (plainElem Tryd.prog 3) db n' D → wx.ownsMap Tryd.prog 52 (plainElem Tryd.prog 3) db n' D) : OnRel cs k s db n w1 (j + 1) wx := by
  obtain ⟨n', D, h1, h2, h3⟩ := h.own
  refine ⟨h.keep.trans (hk.mono fun _ _ q => q), ⟨n', D, hown _ _ h1, ?_, h3⟩, ?_⟩
  · rw [Nat.succ_mul]; omega
  · rw [h.here]; exact firstFrom_skip cs k s j hj ho

theorem bit_eq (d j : Nat) (hd : d < 65536) : (bits .and .u16 (((d : Nat) : Int) / 2 ^ j) 1 == 1) = d.testBit j := by
  have e : ((d : Nat) : Int) / 2 ^ j = ((d / 2 ^ j : Nat) : Int) := by push_cast; rfl
  rw [e]
  have hl : d / 2 ^ j < 65536 := Nat.lt_of_le_of_lt (Nat.div_le_self _ _) hd
  have := u16_and_nat (d / 2 ^ j) 1 hl (by omega)
  rw [show ((1 : Nat) : Int) = 1 from rfl] at this
  rw [this, Nat.testBit_eq_decide_div_mod_eq, Nat.and_one_is_mod]
  by_cases h : d / 2 ^ j % 2 = 1
  · rw [h]; rfl
  · have h0 : d / 2 ^ j % 2 = 0 := by omega
    rw [h0]; rfl
theorem clear_eq (cs : List OCall) (s : OSt) (j : Nat) (hn : cs.length ≤ 10) (hd : s.done < 65536) : (bits .andNot .u16 ((aheadN cs j : Nat) : Int) ((s.done : Nat) : Int) != 0) = !clear_ cs s j := by
  rw [u16_andNot_nat (aheadN cs j) _ (aheadTo_lt cs j _ (by omega)) hd]
  have := clear_iff cs s j hn hd
  cases h : clear_ cs s j with
  | true => rw [this.2 h]; rfl
  | false =>
    have : ¬ (aheadN cs j &&& (65535 - s.done)) = 0 := fun q => by rw [this.1 q] at h; cases h
    simp only [Bool.not_false, bne_iff_ne, ne_eq]
    omega

set_option maxRecDepth 100000 in
set_option maxHeartbeats 8000000 in
theorem on_live (cs : List OCall) (h1 : 1 ≤ cs.length) (hn : cs.length ≤ 10) (k sb db ab cb off cap : Nat)
    (ih : ∀ (s : OSt) (ord : List Nat) (nb m : Nat) (Dn : MapD) (lv : Value) (n : Nat) (D : MapD) (w : World), OnIn cs k sb db ab cb off cap s ord nb m Dn lv n D w →
      Calls Tryd.prog 13 #[.pointer (some ⟨sb, 0, none⟩), .map (some nb), stV s, lv] w (OnEnd cs k s ord db n w))
    (s : OSt) (ord : List Nat) (nb m : Nat) (Dn : MapD) (lv : Value) (n : Nat) (D : MapD) (w : World) (hI : OnIn cs (k + 1) sb db ab cb off cap s ord nb m Dn lv n D w)
    (hlive : D.atKey (skey s) (.lit (.int .i64 0)) ≠ .lit (.int .i64 1)) :
    Calls Tryd.prog 13 #[.pointer (some ⟨sb, 0, none⟩), .map (some nb), stV s, lv] w (OnEnd cs (k + 1) s ord db n w) := by
  obtain ⟨a1, a2, a3, a4, a5, a6, a7, a8, a9, a10, hst⟩ := eleven s hI.st
  have hsv : stV s = .agg #[.int .u16 ((s.done : Nat) : Int), .int .i8 a1, .int .i8 a2, .int .i8 a3, .int .i8 a4, .int .i8 a5, .int .i8 a6, .int .i8 a7, .int .i8 a8, .int .i8 a9, .int .i8 a10] := by unfold stV; rw [hst]
  rw [hsv]
  have HIH := Lib.hid ih
  have HSt := Lib.hid hst
  have HI := Lib.hid hI
  have HD := Lib.hid hlive
  obtain ⟨la, lc, rfl, hlf⟩ := hI.list.form
  have HLf := Lib.hid hlf
  have hcs : w.cell? ⟨sb, 0, none⟩ = some (.slice (some ⟨cb, off, none⟩) cs.length cap) := hI.env.search.cell 0
  have hdc : w.cell? ⟨sb, 2, none⟩ = some (.map (some db)) := hI.env.search.cell 2
  have hsl := hI.env.search.lt
  have hlt : ord.length < cs.length := by have := hI.len; omega
  have hne : ((ord.length : Int) == (cs.length : Int)) = false := by simp; omega
  have hzero : ∀ W, (zeroValue 3).run Tryd.prog W = .ok (.int .i64 0) W := fun W => by kernel_rfl
  have HZero := Lib.hid hzero
  obtain ⟨w1, hw1⟩ : ∃ w1, w1 = (w.alloc (.cells #[.int .u16 ((s.done : Nat) : Int), .int .i8 a1, .int .i8 a2, .int .i8 a3, .int .i8 a4, .int .i8 a5, .int .i8 a6, .int .i8 a7, .int .i8 a8, .int .i8 a9, .int .i8 a10] 52)).drew := ⟨_, rfl⟩
  have hlk : ∃ c, (Instr.lookup 43 (.map (some db)) (.agg #[.int .u16 ((s.done : Nat) : Int), .int .i8 a1, .int .i8 a2, .int .i8 a3, .int .i8 a4, .int .i8 a5, .int .i8 a6, .int .i8 a7, .int .i8 a8, .int .i8 a9, .int .i8 a10]) false).run Tryd.prog w1 = .ok (.int .i64 c) w1 ∧ D.atKey (skey s) (.lit (.int .i64 0)) = .lit (.int .i64 c) ∧ (Lit.int .i64 c).wf = true :=
    World.ownsMap.lookup_int (by rw [hw1]; exact (hI.dead.alloc _).drew) dead_keyed Tryd.underlying43 Tryd.underlying3 (hzero w1) (by rw [← hsv]; exact skey_of hI.st)
  obtain ⟨c, hlk, hat, _⟩ := hlk
  have hc : (c == 1) = false := by
    simp only [beq_eq_false_iff_ne, ne_eq]
    rintro rfl
    exact hlive hat
  have hbk : Blk w1 w.heap.size #[.int .u16 ((s.done : Nat) : Int), .int .i8 a1, .int .i8 a2, .int .i8 a3, .int .i8 a4, .int .i8 a5, .int .i8 a6, .int .i8 a7, .int .i8 a8, .int .i8 a9, .int .i8 a10] 52 := by rw [hw1]; exact (Blk.new w _ _).drew
  have HBk := Lib.hid hbk
  have HE1 := Lib.hid (show Env cs sb db ab cb off cap w1 by rw [hw1]; exact hI.env.keep (((Keep.refl _ _).alloc _).drew))
  have hrel0 : OnRel cs k s db n w1 0 w1 := ⟨Keep.refl _ _, ⟨n, D, by rw [hw1]; exact (hI.dead.alloc _).drew, by omega, hI.deadOk⟩, first_from cs k s⟩
  have HRel0 := Lib.hid hrel0
  have HK1 := Lib.hid (show Keep (· = db) w w1 by rw [hw1]; exact ((Keep.refl _ _).alloc _).drew)
  have hsz1 : w1.heap.size = w.heap.size + 1 := by rw [hw1]; simp [World.drew]
  have HSv := Lib.hid hsv
  have HW1 := Lib.hid hw1
  rw [hw1] at hlk
  clear ih hI hst hw1 hat hsv hlive hlf hbk hrel0 hzero
  go_enter Tryd.func13, Tryd.ntmps13
  go_wp2_with fail
  go_region
  go_wp2_with fail
  generalize w.heap.size = g6 at *
  go_loopw [37] (fun i wr => ∃ j : Nat, j ≤ cs.length ∧ i = .int .i64 j ∧ OnRel cs k s db n w1 j wr) (fun i _ => cs.length - (intOf i).toNat)
  case atStart => exact ⟨0, Nat.zero_le _, rfl, by rw [← HW1.out]; exact HRel0.out⟩
  case round =>
    obtain ⟨j, hj, rfl, hrel⟩ := hrel
    have HRel := Lib.hid hrel
    have HEr := Lib.hid (HE1.out.keep hrel.keep)
    have e0 : wr.cell? ⟨sb, 0, none⟩ = some (.slice (some ⟨cb, off, none⟩) cs.length cap) := HEr.out.search.cell 0
    have e1 : wr.cell? ⟨sb, 1, none⟩ = some (.slice (some ⟨ab, 0, none⟩) cs.length cs.length) := HEr.out.search.cell 1
    have e2 : wr.cell? ⟨sb, 2, none⟩ = some (.map (some db)) := HEr.out.search.cell 2
    have hslr := HEr.out.search.lt
    have halr := HEr.out.ahead.lt
    have hclr := HEr.out.calls.1
    have hg6r : g6 < wr.heap.size := by have := hrel.keep.size; omega
    have hgne : g6 ≠ db := by
      obtain ⟨n', D', ho, _⟩ := HRel0.out.own
      obtain ⟨es, c', hb⟩ := (owns_isMap ho).2
      rintro rfl
      have := HBk.out
      unfold Blk at this
      rw [hb] at this
      cases this
    have HGne := Lib.hid hgne
    have hbkr : Blk wr g6 #[.int .u16 ((s.done : Nat) : Int), .int .i8 a1, .int .i8 a2, .int .i8 a3, .int .i8 a4, .int .i8 a5, .int .i8 a6, .int .i8 a7, .int .i8 a8, .int .i8 a9, .int .i8 a10] 52 := hrel.keep.blk HBk.out hgne
    have HBkr := Lib.hid hbkr
    have s0 : wr.cell? ⟨g6, 0, none⟩ = some (.int .u16 ((s.done : Nat) : Int)) := hbkr.cell 0
    have s1 : wr.cell? ⟨g6, 1, none⟩ = some (.int .i8 a1) := hbkr.cell 1
    have s2 : wr.cell? ⟨g6, 2, none⟩ = some (.int .i8 a2) := hbkr.cell 2
    have s3 : wr.cell? ⟨g6, 3, none⟩ = some (.int .i8 a3) := hbkr.cell 3
    have s4 : wr.cell? ⟨g6, 4, none⟩ = some (.int .i8 a4) := hbkr.cell 4
    have s5 : wr.cell? ⟨g6, 5, none⟩ = some (.int .i8 a5) := hbkr.cell 5
    have s6 : wr.cell? ⟨g6, 6, none⟩ = some (.int .i8 a6) := hbkr.cell 6
    have s7 : wr.cell? ⟨g6, 7, none⟩ = some (.int .i8 a7) := hbkr.cell 7
    have s8 : wr.cell? ⟨g6, 8, none⟩ = some (.int .i8 a8) := hbkr.cell 8
    have s9 : wr.cell? ⟨g6, 9, none⟩ = some (.int .i8 a9) := hbkr.cell 9
    have s10 : wr.cell? ⟨g6, 10, none⟩ = some (.int .i8 a10) := hbkr.cell 10
    have HNow : Hid (∀ j, j < cs.length → ∀ W, Keep (· = db) wr W → (Instr.lookup 48 (.map (some nb)) (.int .i64 (at_ cs j).lba) false).run Tryd.prog W = .ok (.int .i64 (cur cs s j)) W) := fun j hj W hW => by
      have hown := owns_keep (owns_keep (owns_keep HI.out.now HK1.out HI.out.nd) HRel.out.keep HI.out.nd) hW HI.out.nd
      obtain ⟨c, h1, h2, _⟩ := World.ownsMap.lookup_int hown now_keyed Tryd.underlying48 Tryd.underlying3 (HZero.out W) (Maps.keyOf_int_mk Tryd.underlying3 (HE1.out.calls.2.2 j hj).lba)
      rw [HI.out.nowOk j hj] at h2
      simp at h2
      rw [h2]; exact h1
    clear hrel hbkr hgne
    by_cases hjl : j < cs.length
    · have hcell := HEr.out.calls.2.1 j hjl
      have hwf := HEr.out.calls.2.2 j hjl
      have ha : wr.cell? ⟨ab, j, none⟩ = some (.int .u16 ((aheadN cs j : Nat) : Int)) := by
        rw [HEr.out.ahead.cell]
        simp [aheadCells, hjl]
      obtain ⟨⟨fr, to_, isw, lba, val⟩, hat⟩ : ∃ c, at_ cs j = c := ⟨_, rfl⟩
      rw [hat] at hcell hwf
      have HAt := Lib.hid hat
      have HWf := Lib.hid hwf
      have c0 : wr.cell? ⟨cb, off + j * 5, none⟩ = some (.int .i64 fr) := hcell 0 _ rfl
      have c1 : wr.cell? ⟨cb, off + j * 5 + 1, none⟩ = some (.int .i64 to_) := hcell 1 _ rfl
      have c2 : wr.cell? ⟨cb, off + j * 5 + 2, none⟩ = some (.bool isw) := hcell 2 _ rfl
      have c3 : wr.cell? ⟨cb, off + j * 5 + 3, none⟩ = some (.int .i64 lba) := hcell 3 _ rfl
      have c4 : wr.cell? ⟨cb, off + j * 5 + 4, none⟩ = some (.int .i64 val) := hcell 4 _ rfl
      clear hcell hwf hat
      have HSkip : Hid (ok cs s j = false → ∀ c nq, OnRel cs k s db n w1 (j + 1) ((wr.alloc (.cells c 39)).drewN nq)) := fun ho c nq =>
        HRel.out.skip hjl ho (((Keep.refl _ _).alloc _).drewN _) (fun n' D h => owns_keep h ((((Keep.refl (fun _ => False) _).alloc _).drewN nq)) (fun q => q))
      have hd1 := bit_eq s.done j HI.out.st.done
      have hd2 := clear_eq cs s j hn HI.out.st.done
      have hok := ok_eq cs s j
      rw [HAt.out] at hok
      have HOk := Lib.hid hok
      clear hok
      go_upto_region 8 with fail
      rename World => wl
      go_cut [74] (fun s74 wx => s74 = .bool (!ok cs s j) ∧ ∃ nq, wx = (wl.alloc (.cells #[.int .i64 fr, .int .i64 to_, .bool isw, .int .i64 lba, .int .i64 val] 39)).drewN nq)
      case first =>
        cases hbit : s.done.testBit j with
        | true =>
          rw [hbit] at hd1
          have HS := Lib.hid (show (!ok cs s j) = true by rw [HOk.out, hbit]; rfl)
          clear hd2 hbit
          go_quiet (fail)
          go_wp2
          go_meet
          case rel => exact ⟨by rw [HS.out], _, rfl⟩
        | false =>
          rw [hbit] at hd1
          cases hcl : clear_ cs s j with
          | false =>
            rw [hcl] at hd2
            have HS := Lib.hid (show (!ok cs s j) = true by rw [HOk.out, hcl]; simp)
            simp only [Bool.not_false] at hd2
            clear hbit hcl
            go_quiet (fail)
            go_wp2
            go_meet
            case rel => exact ⟨by rw [HS.out], _, rfl⟩
          | true =>
            rw [hcl] at hd2
            simp only [Bool.not_true] at hd2
            cases isw with
            | true =>
              have HS := Lib.hid (show (!ok cs s j) = false by rw [HOk.out, hcl, hbit]; simp)
              clear hbit hcl
              go_quiet (fail)
              go_wp2
              go_meet
              case rel => exact ⟨by rw [HS.out], _, rfl⟩
            | false =>
              have hlk2 : ∀ N, (Instr.lookup 48 (.map (some nb)) (.int .i64 lba) false).run Tryd.prog ((wl.alloc (.cells #[.int .i64 fr, .int .i64 to_, .bool false, .int .i64 lba, .int .i64 val] 39)).drewN N) = .ok (.int .i64 (cur cs s j)) ((wl.alloc (.cells #[.int .i64 fr, .int .i64 to_, .bool false, .int .i64 lba, .int .i64 val] 39)).drewN N) := fun N => by
                have := HNow.out j hjl _ (((Keep.refl (· = db) wl).alloc (.cells #[.int .i64 fr, .int .i64 to_, .bool false, .int .i64 lba, .int .i64 val] 39)).drewN N)
                rw [HAt.out] at this
                exact this
              have hd3 : (cur cs s j != val) = !decide (cur cs s j = val) := by
                by_cases q : cur cs s j = val
                · simp [q]
                · simp [q]
              have HS := Lib.hid (show (!ok cs s j) = !decide (cur cs s j = val) by rw [HOk.out, hcl, hbit]; simp)
              clear hbit hcl
              go_quiet (fail)
              go_wp2
              go_meet
              case rel => exact ⟨by rw [HS.out], _, rfl⟩
      case rest =>
        obtain ⟨rfl, nq, rfl⟩ := hcut
        cases hok : ok cs s j with
        | false =>
          have HS := Lib.hid (HSkip.out hok)
          go_wp2_with fail
          go_roundw
          case rel => exact ⟨j + 1, by omega, by go_num, HS.out _ _⟩
          case measure => simp [intOf]; omega
        | true =>
          have hk2 : Keep (· = db) wl ((wl.alloc (.cells #[.int .i64 fr, .int .i64 to_, .bool isw, .int .i64 lba, .int .i64 val] 39)).drewN nq) := ((Keep.refl _ _).alloc _).drewN _
          have HK2F : Hid (Keep (fun _ => False) wl ((wl.alloc (.cells #[.int .i64 fr, .int .i64 to_, .bool isw, .int .i64 lba, .int .i64 val] 39)).drewN nq)) := ((Keep.refl _ _).alloc _).drewN _
          have hb2 : Blk ((wl.alloc (.cells #[.int .i64 fr, .int .i64 to_, .bool isw, .int .i64 lba, .int .i64 val] 39)).drewN nq) wl.heap.size #[.int .i64 fr, .int .i64 to_, .bool isw, .int .i64 lba, .int .i64 val] 39 := (Blk.new _ _ _).drewN _
          have hz2 : ((wl.alloc (.cells #[.int .i64 fr, .int .i64 to_, .bool isw, .int .i64 lba, .int .i64 val] 39)).drewN nq).heap.size = wl.heap.size + 1 := by simp [World.drewN]
          have hgne := HGne.out
          have hbk2 := hk2.blk HBkr.out hgne
          generalize (wl.alloc (.cells #[.int .i64 fr, .int .i64 to_, .bool isw, .int .i64 lba, .int .i64 val] 39)).drewN nq = w2 at *
          generalize hgc : wl.heap.size = gc at *
          have HK2 := Lib.hid hk2
          have HB2 := Lib.hid hb2
          have HOKJ := Lib.hid hok
          have p2 : w2.cell? ⟨gc, 2, none⟩ = some (.bool isw) := hb2.cell 2
          have p3 : w2.cell? ⟨gc, 3, none⟩ = some (.int .i64 lba) := hb2.cell 3
          have p4 : w2.cell? ⟨gc, 4, none⟩ = some (.int .i64 val) := hb2.cell 4
          clear e0 e1 e2 s0 s1 s2 s3 s4 s5 s6 s7 s8 s9 s10 c0 c1 c2 c3 c4 ha hd1 hd2
          have s0 : w2.cell? ⟨g6, 0, none⟩ = some (.int .u16 ((s.done : Nat) : Int)) := hbk2.cell 0
          have s1 : w2.cell? ⟨g6, 1, none⟩ = some (.int .i8 a1) := hbk2.cell 1
          have s2 : w2.cell? ⟨g6, 2, none⟩ = some (.int .i8 a2) := hbk2.cell 2
          have s3 : w2.cell? ⟨g6, 3, none⟩ = some (.int .i8 a3) := hbk2.cell 3
          have s4 : w2.cell? ⟨g6, 4, none⟩ = some (.int .i8 a4) := hbk2.cell 4
          have s5 : w2.cell? ⟨g6, 5, none⟩ = some (.int .i8 a5) := hbk2.cell 5
          have s6 : w2.cell? ⟨g6, 6, none⟩ = some (.int .i8 a6) := hbk2.cell 6
          have s7 : w2.cell? ⟨g6, 7, none⟩ = some (.int .i8 a7) := hbk2.cell 7
          have s8 : w2.cell? ⟨g6, 8, none⟩ = some (.int .i8 a8) := hbk2.cell 8
          have s9 : w2.cell? ⟨g6, 9, none⟩ = some (.int .i8 a9) := hbk2.cell 9
          have s10 : w2.cell? ⟨g6, 10, none⟩ = some (.int .i8 a10) := hbk2.cell 10
          have hgcl : gc < w2.heap.size := by omega
          have hg6l : g6 < w2.heap.size := by omega
          have hsh := sh_eq j (by omega)
          have hor := or_eq s.done j HI.out.st.done (by omega)
          have hdg : db < gc := by
            obtain ⟨n', D', ho, _⟩ := HRel.out.own
            have := ho.lt
            omega
          have HCd : Hid (gc ≠ db) := by show gc ≠ db; omega
          clear hk2 hb2 hok hbk2
          go_wp2_with fail
          go_region
          go_wp2_with fail
          go_region
          go_upto_if 84 with (fail)
          have hk3 : Keep (· = db) w2 ((w2.alloc (.cells #[.int .u16 ((s.done ||| 1 <<< j : Nat) : Int), .int .i8 a1, .int .i8 a2, .int .i8 a3, .int .i8 a4, .int .i8 a5, .int .i8 a6, .int .i8 a7, .int .i8 a8, .int .i8 a9, .int .i8 a10] 52)).drew.drew) := ((Keep.refl _ _).alloc _).drew.drew
          have HK3F : Hid (Keep (fun _ => False) w2 ((w2.alloc (.cells #[.int .u16 ((s.done ||| 1 <<< j : Nat) : Int), .int .i8 a1, .int .i8 a2, .int .i8 a3, .int .i8 a4, .int .i8 a5, .int .i8 a6, .int .i8 a7, .int .i8 a8, .int .i8 a9, .int .i8 a10] 52)).drew.drew)) := ((Keep.refl _ _).alloc _).drew.drew
          have hb3 : Blk ((w2.alloc (.cells #[.int .u16 ((s.done ||| 1 <<< j : Nat) : Int), .int .i8 a1, .int .i8 a2, .int .i8 a3, .int .i8 a4, .int .i8 a5, .int .i8 a6, .int .i8 a7, .int .i8 a8, .int .i8 a9, .int .i8 a10] 52)).drew.drew) (gc + 1) #[.int .u16 ((s.done ||| 1 <<< j : Nat) : Int), .int .i8 a1, .int .i8 a2, .int .i8 a3, .int .i8 a4, .int .i8 a5, .int .i8 a6, .int .i8 a7, .int .i8 a8, .int .i8 a9, .int .i8 a10] 52 := by rw [← hz2]; exact (Blk.new _ _ _).drew.drew
          have hz3 : ((w2.alloc (.cells #[.int .u16 ((s.done ||| 1 <<< j : Nat) : Int), .int .i8 a1, .int .i8 a2, .int .i8 a3, .int .i8 a4, .int .i8 a5, .int .i8 a6, .int .i8 a7, .int .i8 a8, .int .i8 a9, .int .i8 a10] 52)).drew.drew).heap.size = gc + 2 := by simp [World.drew]; omega
          generalize (w2.alloc (.cells #[.int .u16 ((s.done ||| 1 <<< j : Nat) : Int), .int .i8 a1, .int .i8 a2, .int .i8 a3, .int .i8 a4, .int .i8 a5, .int .i8 a6, .int .i8 a7, .int .i8 a8, .int .i8 a9, .int .i8 a10] 52)).drew.drew = w3 at *
          have HK3 := Lib.hid hk3
          have HB3 := Lib.hid hb3
          have p2 : w3.cell? ⟨gc, 2, none⟩ = some (.bool isw) := (hk3.cell (p := ⟨gc, 2, none⟩) hgcl HCd.out).trans p2
          have p3 : w3.cell? ⟨gc, 3, none⟩ = some (.int .i64 lba) := (hk3.cell (p := ⟨gc, 3, none⟩) hgcl HCd.out).trans p3
          have p4 : w3.cell? ⟨gc, 4, none⟩ = some (.int .i64 val) := (hk3.cell (p := ⟨gc, 4, none⟩) hgcl HCd.out).trans p4
          clear hk3 hb3 s0 s1 s2 s3 s4 s5 s6 s7 s8 s9 s10
          go_cut [11] (fun s11 wx => ∃ tb, s11 = .map (some tb) ∧ OnMid cs s j db m (gc + 1) w2 tb wx)
          case first =>
            have hnmlt := name_lt cs j hjl
            have HNext : Hid (stCells (next cs s j) = if isw then ((#[.int .u16 ((s.done ||| 1 <<< j : Nat) : Int), .int .i8 a1, .int .i8 a2, .int .i8 a3, .int .i8 a4, .int .i8 a5, .int .i8 a6, .int .i8 a7, .int .i8 a8, .int .i8 a9, .int .i8 a10] : Array Value).setIfInBounds (1 + nameOf cs j) (.int .i8 ((j + 1 : Nat) : Int))) else (#[.int .u16 ((s.done ||| 1 <<< j : Nat) : Int), .int .i8 a1, .int .i8 a2, .int .i8 a3, .int .i8 a4, .int .i8 a5, .int .i8 a6, .int .i8 a7, .int .i8 a8, .int .i8 a9, .int .i8 a10] : Array Value)) := by
              have := cells_next cs s j HI.out.st
              rw [HAt.out, HSt.out] at this
              exact this
            cases isw with
            | false =>
              have HMid : Hid (OnMid cs s j db m (gc + 1) w2 nb w3) := ⟨HK3F.out, HB3.out.of HNext.out.symm, ⟨Dn, m, owns_keep (owns_keep (owns_keep HI.out.now HK1.out HI.out.nd) HRel.out.keep HI.out.nd) (HK2.out.trans (HK3.out.mono (fun _ _ q => q))) HI.out.nd, by omega, nowOk_read HI.out.nowOk HI.out.st hn j hjl (by rw [HAt.out])⟩, HI.out.nd⟩
              go_wp2
              go_meet
              case rel => exact ⟨nb, rfl, HMid.out⟩
            | true =>
              have hown3 := owns_keep (owns_keep (owns_keep HI.out.now HK1.out HI.out.nd) HRel.out.keep HI.out.nd) (HK2.out.trans (HK3.out.mono (fun _ _ q => q))) HI.out.nd
              have HCl := Lib.hid (clone_owns nb m Dn w3 hown3)
              clear hown3
              go_wp2_with fail
              refine HCl.out.mono ?_
              rintro e w4 ⟨rfl, hown4, hbel4, hz4⟩
              have hk4 : Keep (· = db) w3 w4 := Keep.ofBelow hbel4 (fun q h1 h2 => absurd h1 (by omega))
              have hk4f : Keep (fun _ => False) w3 w4 := Keep.ofBelow hbel4 (fun q h1 h2 => absurd h1 (by omega))
              have HK4 := Lib.hid hk4
              have p3 : w4.cell? ⟨gc, 3, none⟩ = some (.int .i64 lba) := (hk4.cell (p := ⟨gc, 3, none⟩) (show gc < w3.heap.size by omega) HCd.out).trans p3
              have p4 : w4.cell? ⟨gc, 4, none⟩ = some (.int .i64 val) := (hk4.cell (p := ⟨gc, 4, none⟩) (show gc < w3.heap.size by omega) HCd.out).trans p4
              rw [hz3] at hown4 hz4
              clear hbel4 HCl hk4
              have hmm : m < maxLen := by have := HI.out.roomN; unfold maxLen; omega
              go_wp2_with (at_mapUpdate; refine wpList_mapUpdate_own _ rfl _ _ _ 48 rfl 3 3 now_keyed Tryd.underlying48 _ (gc + 2) m Dn rfl hown4 hmm _ _ (.int .i64 lba) rfl rfl (Maps.keyOf_int_mk Tryd.underlying3 HWf.out.lba) (.lit (.int .i64 val)) [] (plainElem_int Tryd.underlying3 HWf.out.val) ?_)
              intro w5 hown5 hgr5
              have hk5 : Keep (· = db) w3 w5 := HK4.out.grown hgr5 (fun q hq => by simp at hq; exact .inr (by omega))
              have HK5F : Hid (Keep (fun _ => False) w3 w5) := hk4f.grown hgr5 (fun q hq => by simp at hq; exact .inr (by omega))
              have hz5 : gc + 3 ≤ w5.heap.size := by have := hgr5.size; omega
              have HK5 := Lib.hid hk5
              have hk35 : Keep (· = db) wl w5 := HK2.out.trans ((HK3.out.trans (hk5.mono (fun _ _ q => q))).mono (fun _ _ q => q))
              have HK35 := Lib.hid hk35
              have HE5 := Lib.hid (HEr.out.keep hk35)
              have HB5 := Lib.hid (hk5.blk HB3.out (show gc + 1 ≠ db by omega))
              have HC5 := Lib.hid (hk5.blk (HK3.out.blk HB2.out HCd.out) HCd.out)
              have hnow5 := nowOk_write HI.out.nowOk (owns_isMap HI.out.now).1 HI.out.st hn j hjl (by rw [HAt.out])
              rw [HAt.out] at hnow5
              have HNow5 := Lib.hid hnow5
              have HOwn5 := Lib.hid hown5
              have e0 : w5.cell? ⟨sb, 0, none⟩ = some (.slice (some ⟨cb, off, none⟩) cs.length cap) := HE5.out.search.cell 0
              have hsl5 := HE5.out.search.lt
              clear p2 p3 p4 hk5 hk35 hnow5 hown5 hgr5 hown4
              go_wp2_with fail
              go_loopw [97] (fun i wq => ∃ q : Nat, q ≤ nameOf cs j ∧ i = .int .i64 q ∧ Below w5.heap.size w5 wq) (fun i _ => cs.length - (intOf i).toNat)
              case atStart => exact ⟨0, Nat.zero_le _, rfl, Below.refl _ _⟩
              case round =>
                obtain ⟨q, hq, rfl, hbq⟩ := hrel
                have hql : q < cs.length := by omega
                have hkq : Keep (· = db) w5 wr := Keep.ofBelow hbq (fun q h1 h2 => absurd h1 (by omega))
                have HKq := Lib.hid hkq
                have HBq0 : Hid (Keep (fun _ => False) w5 wr) := Keep.ofBelow hbq (fun q h1 h2 => absurd h1 (by omega))
                have HBq := Lib.hid hbq
                have HEq := Lib.hid (HE5.out.keep hkq)
                have hsq := hbq.size
                have hclq := HEq.out.calls.1
                have hcell := HEq.out.calls.2.1 q hql
                obtain ⟨⟨fr1, to1, isw1, lba1, val1⟩, hat1⟩ : ∃ c, at_ cs q = c := ⟨_, rfl⟩
                rw [hat1] at hcell
                have c0 : wr.cell? ⟨cb, off + q * 5, none⟩ = some (.int .i64 fr1) := hcell 0 _ rfl
                have c1 : wr.cell? ⟨cb, off + q * 5 + 1, none⟩ = some (.int .i64 to1) := hcell 1 _ rfl
                have c2 : wr.cell? ⟨cb, off + q * 5 + 2, none⟩ = some (.bool isw1) := hcell 2 _ rfl
                have c3 : wr.cell? ⟨cb, off + q * 5 + 3, none⟩ = some (.int .i64 lba1) := hcell 3 _ rfl
                have c4 : wr.cell? ⟨cb, off + q * 5 + 4, none⟩ = some (.int .i64 val1) := hcell 4 _ rfl
                have hbc := hkq.blk HC5.out HCd.out
                have p3 : wr.cell? ⟨gc, 3, none⟩ = some (.int .i64 lba) := hbc.cell 3
                have hbs := hkq.blk HB5.out (show gc + 1 ≠ db by omega)
                have HBs := Lib.hid hbs
                have HAt1 := Lib.hid hat1
                have hgq : gc < wr.heap.size := by omega
                have hg1q : gc + 1 < wr.heap.size := by omega
                clear hcell hat1 hbq hkq hbc hbs e0
                by_cases hqe : q = nameOf cs j
                · have hel : (lba1 == lba) = true := by
                    have := name_lba cs j hjl
                    rw [← hqe, HAt1.out, HAt.out] at this
                    simpa using this
                  obtain ⟨old, hold⟩ : ∃ old : Int, wr.cell? ⟨gc + 1, 1 + q, none⟩ = some (.int .i8 old) := by
                    rw [HBs.out.cell]
                    match q, (show q < 10 by omega) with
                    | 0, _ => exact ⟨_, rfl⟩
                    | 1, _ => exact ⟨_, rfl⟩
                    | 2, _ => exact ⟨_, rfl⟩
                    | 3, _ => exact ⟨_, rfl⟩
                    | 4, _ => exact ⟨_, rfl⟩
                    | 5, _ => exact ⟨_, rfl⟩
                    | 6, _ => exact ⟨_, rfl⟩
                    | 7, _ => exact ⟨_, rfl⟩
                    | 8, _ => exact ⟨_, rfl⟩
                    | 9, _ => exact ⟨_, rfl⟩
                  have hfz : wr.frozen? ⟨gc + 1, 1 + q, none⟩ = false := HBs.out.free _
                  have hw8 := i8_eq j (by omega)
                  have hq10 : q < 10 := by omega
                  have HMid : Hid (OnMid cs s j db m (gc + 1) w2 (gc + 2) ((wr.setCell ⟨gc + 1, 1 + q, none⟩ (.int .i8 ((j : Int) + 1))).alloc (.cells #[.int .i64 fr1, .int .i64 to1, .bool isw1, .int .i64 lba1, .int .i64 val1] 39))) := by
                    refine ⟨?_, ?_, ⟨_, m + 1, ?_, Nat.le_refl _, HNow5.out⟩, by omega⟩
                    · exact ((HK3F.out.trans HK5F.out).trans HBq0.out).setCell (.inr (by show w2.heap.size ≤ gc + 1; omega)) _ |>.alloc _
                    · have := (HBs.out.set (1 + q) (.int .i8 ((j : Int) + 1))).alloc (.cells #[.int .i64 fr1, .int .i64 to1, .bool isw1, .int .i64 lba1, .int .i64 val1] 39)
                      refine this.of ?_
                      rw [HNext.out, if_pos trivial, hqe]
                      rfl
                    · exact owns_keep (owns_keep HOwn5.out HBq0.out (fun q => q)) (((Keep.refl (fun z => z = gc + 1) _).setCell (.inl rfl) _).alloc _) (by show ¬ gc + 2 = gc + 1; omega)
                  clear hqe hq
                  go_wp2_with fail
                  go_meet
                  case rel => exact ⟨gc + 2, rfl, HMid.out⟩
                · have hel : (lba1 == lba) = false := by
                    have := name_before cs j q (by omega)
                    rw [HAt1.out, HAt.out] at this
                    simpa using this
                  have hqn : q + 1 ≤ nameOf cs j := by omega
                  clear hqe
                  go_wp2_with fail
                  go_roundw
                  case rel => exact ⟨q + 1, hqn, by go_num, HBq.out.alloc HBq.out.size _⟩
                  case measure => simp [intOf]; omega
          case rest =>
            obtain ⟨tb, rfl, hmid⟩ := hcut
            obtain ⟨hkm, hbm, ⟨Dm, mm, hownm, hmm, hnokm⟩, htd⟩ := hmid
            have hstn := next_ok HI.out.st hn hjl
            obtain ⟨b1, b2, b3, b4, b5, b6, b7, b8, b9, b10, hnst⟩ := eleven (next cs s j) hstn
            rw [hnst] at hbm
            have hgd : gc + 1 ≠ db := by omega
            have hk0 : Keep (fun _ => False) wl wc := HK2F.out.trans hkm
            have hk0d : Keep (· = db) wl wc := hk0.mono (fun _ _ q => q.elim)
            have hkw : Keep (· = db) w wc := (HK1.out.trans HRel.out.keep).trans hk0d
            have HKw := Lib.hid hkw
            have HKr := Lib.hid (HRel.out.keep.trans hk0d)
            have hcsz : gc + 1 < wc.heap.size := hbm.lt
            have HEc := Lib.hid (HEr.out.keep hk0d)
            have HLc := Lib.hid (HI.out.list.keep hkw (owns_isMap HI.out.dead).2)
            obtain ⟨n2, D2, hod, hn2, hd2⟩ := HRel.out.own
            have hodc := owns_keep hod hk0 (fun q => q)
            have hleft := left_next HOKJ.out hjl
            have hsv2 : stV (next cs s j) = .agg #[.int .u16 (((next cs s j).done : Nat) : Int), .int .i8 b1, .int .i8 b2, .int .i8 b3, .int .i8 b4, .int .i8 b5, .int .i8 b6, .int .i8 b7, .int .i8 b8, .int .i8 b9, .int .i8 b10] := by unfold stV; rw [hnst]
            have HCall : Hid (∀ W v, Keep (fun _ => False) wc W → LAt W v (ord ++ [j]) → Calls Tryd.prog 13 #[.pointer (some ⟨sb, 0, none⟩), .map (some tb), .agg #[.int .u16 (((next cs s j).done : Nat) : Int), .int .i8 b1, .int .i8 b2, .int .i8 b3, .int .i8 b4, .int .i8 b5, .int .i8 b6, .int .i8 b7, .int .i8 b8, .int .i8 b9, .int .i8 b10], v] W (OnEnd cs k (next cs s j) (ord ++ [j]) db n2 W)) := fun W v hW hv => by
              rw [← hsv2]
              refine HIH.out (next cs s j) (ord ++ [j]) tb mm Dm v n2 D2 W ⟨hstn, by have := HI.out.left; omega, by have := HI.out.len; simp; omega, HEc.out.keep (hW.mono (fun _ _ q => q.elim)), owns_keep hodc hW (fun q => q), hd2, owns_keep hownm hW (fun q => q), htd, hnokm, hv, ?_, ?_⟩
              · have h4 := HI.out.room
                rw [show cost (k + 1) = 10 * cost k + 1 from rfl] at h4
                have h5 : (j + 1) * cost k ≤ 10 * cost k := Nat.mul_le_mul_right _ (by omega)
                rw [Nat.succ_mul] at h5
                omega
              · have h4 := HI.out.roomN
                omega
            have HGo : Hid (∀ W v wz, Keep (fun _ => False) wc W → OnEnd cs k (next cs s j) (ord ++ [j]) db n2 W (.returned v) wz → (v = .slice none 0 0 ∧ OnRel cs k s db n w1 (j + 1) wz) ∨ ∃ g c, v = .slice (some ⟨g, 0, none⟩) (ord.length + 1 + k) c ∧ OnEnd cs (k + 1) s ord db n w (.returned v) wz) := fun W v wz hW he => by
              obtain ⟨v', n3, D3, e1, hkz, hoz, hnz, hdz, hres⟩ := he
              cases e1
              have hkz' : Keep (· = db) wc wz := (hW.mono (fun _ _ q => q.elim)).trans hkz
              rcases hres with ⟨hf, rfl⟩ | ⟨r, hf, g, cp, rfl, hL⟩
              · refine .inl ⟨rfl, HKr.out.trans hkz', ⟨n3, D3, hoz, ?_, hdz⟩, ?_⟩
                · rw [Nat.succ_mul]; omega
                · rw [HRel.out.here]; exact firstFrom_none cs k s j hjl hf
              · have hfs : first cs (k + 1) s = some (j :: r) := by rw [HRel.out.here]; exact firstFrom_some cs k s j hjl HOKJ.out r hf
                have hrl : r.length = k := first_len cs k _ r hf
                refine .inr ⟨g, cp, by simp [hrl]; omega, _, n3, D3, rfl, HKw.out.trans hkz', hoz, ?_, hdz, .inr ⟨j :: r, hfs, g, cp, by simp, by simpa using hL⟩⟩
                rw [show cost (k + 1) = 10 * cost k + 1 from rfl]
                have h5 : (j + 1) * cost k ≤ 10 * cost k := Nat.mul_le_mul_right _ (by omega)
                rw [Nat.succ_mul] at h5
                omega
            have s0 : wc.cell? ⟨gc + 1, 0, none⟩ = some (.int .u16 (((next cs s j).done : Nat) : Int)) := hbm.cell 0
            have s1 : wc.cell? ⟨gc + 1, 1, none⟩ = some (.int .i8 b1) := hbm.cell 1
            have s2 : wc.cell? ⟨gc + 1, 2, none⟩ = some (.int .i8 b2) := hbm.cell 2
            have s3 : wc.cell? ⟨gc + 1, 3, none⟩ = some (.int .i8 b3) := hbm.cell 3
            have s4 : wc.cell? ⟨gc + 1, 4, none⟩ = some (.int .i8 b4) := hbm.cell 4
            have s5 : wc.cell? ⟨gc + 1, 5, none⟩ = some (.int .i8 b5) := hbm.cell 5
            have s6 : wc.cell? ⟨gc + 1, 6, none⟩ = some (.int .i8 b6) := hbm.cell 6
            have s7 : wc.cell? ⟨gc + 1, 7, none⟩ = some (.int .i8 b7) := hbm.cell 7
            have s8 : wc.cell? ⟨gc + 1, 8, none⟩ = some (.int .i8 b8) := hbm.cell 8
            have s9 : wc.cell? ⟨gc + 1, 9, none⟩ = some (.int .i8 b9) := hbm.cell 9
            have s10 : wc.cell? ⟨gc + 1, 10, none⟩ = some (.int .i8 b10) := hbm.cell 10
            have HBm := Lib.hid hbm
            clear hkm hbm hownm hmm hnokm htd hstn hnst hk0 hk0d hkw hod hn2 hd2 hodc hleft hsv2 p2 p3 p4
            obtain ⟨i0, hi, hz0', hz1, hz2⟩ := info_parts (P := Tryd.prog) (e := 3) (z := .int .i64 0) (size := 1) (bytes := 8) (by kernel_rfl)
            have Hi := Lib.hid hi
            have Hz0 := Lib.hid hz0'
            have Hz1 := Lib.hid hz1
            have Hz2 := Lib.hid hz2
            clear hi hz0' hz1 hz2
            have HOld : Hid (∀ W, Keep (fun _ => False) wc W → ∀ la' : Option Addr, LAt wc (.slice la' ord.length lc) ord → ∀ b, la' = some b → ∀ j u, (ord.map (fun x : Nat => Value.int .i64 (x : Int)))[j]? = some u → W.cell? (b.add j) = some u) := fun W hW la' hla b hb j u hj => by
              obtain ⟨la2, lc2, e1, _, _, h2⟩ := hla.form
              cases e1
              obtain ⟨e1, e2, h3⟩ := h2 b hb
              obtain ⟨bb, bo, bs⟩ := b
              dsimp only at e1 e2 h3
              subst e1 e2
              have hjl : j < ord.length := by have := (List.getElem?_eq_some_iff.1 hj).1; simpa using this
              have hc := h3 j hjl
              rw [WideShapes.add_plain, Nat.zero_add]
              have hbb : bb < wc.heap.size := block_lt_of_cell hc
              rw [hW.cell (p := ⟨bb, j, none⟩) hbb (fun q => q), hc, ← hj]
              simp [List.getD, hjl]
            go_upto_region 20 with fail
            go_cut [15] (fun s15 wx => (s15 = .slice none 0 0 ∧ OnRel cs k s db n w1 (j + 1) wx) ∨ ∃ g c, s15 = .slice (some ⟨g, 0, none⟩) (ord.length + 1 + k) c ∧ OnEnd cs (k + 1) s ord db n w (.returned s15) wx)
            case first =>
              rcases HLc.out with ⟨e1, e2⟩ | ⟨gl, capl, e1, hl0, _, _, _⟩
              · simp only [Value.slice.injEq] at e1
                obtain ⟨rfl, e3, rfl⟩ := e1
                have HE2 := Lib.hid e2
                clear e2
                generalize ord.length = ol at *
                subst e3
                go_region_law (first
                  | (refine step_append_lies _ rfl (.tmp 122) (.tmp 124) 28 rfl wc.heap.size 3 i0 (.int .i64 0) 1 8 Tryd.underlying28 Hi.out Hz0.out Hz1.out Hz2.out rfl (by decide) (.slice none 0 0) 0 [] rfl (World.ownsRow_nil _ _ _ _) _ 1 1 [.int .i64 (j : Int)] rfl rfl (one_news _ _ _ _ (by first | rfl | simp)) (by intro u hu; simp at hu; subst hu; rfl) (by decide) (by decide) (by decide) (by simp) _ rfl ?_
                     intro g11 cap11 w11 hown11 hgrow11 hat11 hlt11
                     have hown11 : w11.ownsRow wc.heap.size 3 1 (.slice (some ⟨g11, 0, none⟩) 1 cap11) 1 (([] : List Nat).map (fun x : Nat => Value.int .i64 (x : Int)) ++ [.int .i64 (j : Int)]) := hown11
                     rw [← HE2.out] at hown11
                     clear hat11
                     have hKA : Keep (fun _ => False) wc w11 := (show Keep (fun _ => False) wc _ from (by first | exact (Keep.refl _ _).drew.alloc _ | exact (Keep.refl _ _).alloc _ | exact ((Keep.refl _ _).drewN _).alloc _)).grown hgrow11 (fun k hk => by cases hk)
                     have HBA := Lib.hid (hKA.blk HBm.out (fun q => q))
                     have HKA := Lib.hid hKA
                     have HLA := Lib.hid (lat_grown rfl (by rw [HE2.out]; rfl) hown11)
                     have t0 : w11.cell? ⟨gc + 1, 0, none⟩ = some (.int .u16 (((next cs s j).done : Nat) : Int)) := HBA.out.cell 0
                     have t1 : w11.cell? ⟨gc + 1, 1, none⟩ = some (.int .i8 b1) := HBA.out.cell 1
                     have t2 : w11.cell? ⟨gc + 1, 2, none⟩ = some (.int .i8 b2) := HBA.out.cell 2
                     have t3 : w11.cell? ⟨gc + 1, 3, none⟩ = some (.int .i8 b3) := HBA.out.cell 3
                     have t4 : w11.cell? ⟨gc + 1, 4, none⟩ = some (.int .i8 b4) := HBA.out.cell 4
                     have t5 : w11.cell? ⟨gc + 1, 5, none⟩ = some (.int .i8 b5) := HBA.out.cell 5
                     have t6 : w11.cell? ⟨gc + 1, 6, none⟩ = some (.int .i8 b6) := HBA.out.cell 6
                     have t7 : w11.cell? ⟨gc + 1, 7, none⟩ = some (.int .i8 b7) := HBA.out.cell 7
                     have t8 : w11.cell? ⟨gc + 1, 8, none⟩ = some (.int .i8 b8) := HBA.out.cell 8
                     have t9 : w11.cell? ⟨gc + 1, 9, none⟩ = some (.int .i8 b9) := HBA.out.cell 9
                     have t10 : w11.cell? ⟨gc + 1, 10, none⟩ = some (.int .i8 b10) := HBA.out.cell 10
                     clear hown11 hgrow11 hKA)
                  | (go_simp
                     refine (HCall.out _ _ HKA.out HLA.out).mono ?_
                     intro e wz he
                     obtain ⟨vz, rfl⟩ : ∃ v, e = .returned v := by
                       obtain ⟨v, _, _, h, _⟩ := he
                       exact ⟨v, h⟩
                     have hGo := HGo.out _ _ _ HKA.out he
                     clear he))
                all_goals
                  have HS := Lib.hid hGo
                  clear hGo
                  go_wp2
                  go_meet
                  case rel => exact HS.out
              · simp only [Value.slice.injEq] at e1
                obtain ⟨rfl, _, rfl⟩ := e1
                have HLc2 := HLc
                have hcaple : ord.length ≤ lc := by assumption
                go_region_law (first
                  | (refine step_append_grows rfl (.tmp 122) (.tmp 124) 28 rfl 3 i0 (.int .i64 0) 1 8 Tryd.underlying28 Hi.out Hz0.out Hz1.out Hz2.out rfl (by decide) (some ⟨gl, 0, none⟩) ord.length ord.length (ord.map (fun x : Nat => Value.int .i64 (x : Int))) (by first | rfl | simp [Act.eval, Act.put]) (fun q => by cases q) (by simp) (HOld.out _ (by first | exact (Keep.refl _ _).drew.alloc _ | exact (Keep.refl _ _).alloc _ | exact ((Keep.refl _ _).drewN _).alloc _) (some ⟨gl, 0, none⟩) HLc2.out) _ 1 1 [.int .i64 (j : Int)] rfl rfl (one_news _ _ _ _ (by first | rfl | simp)) (by intro u hu; simp at hu; subst hu; rfl) (by omega) (by unfold maxLen; omega) (by omega) ?_
                     intro v11 w11 hown11 hgrow11
                     have hKA : Keep (fun _ => False) wc w11 := (show Keep (fun _ => False) wc _ from (by first | exact (Keep.refl _ _).drew.alloc _ | exact (Keep.refl _ _).alloc _ | exact ((Keep.refl _ _).drewN _).alloc _)).grown hgrow11 (fun k hk => by cases hk)
                     have HBA := Lib.hid (hKA.blk HBm.out (fun q => q))
                     have HKA := Lib.hid hKA
                     have HLA := Lib.hid (lat_grown rfl (by omega) hown11)
                     have t0 : w11.cell? ⟨gc + 1, 0, none⟩ = some (.int .u16 (((next cs s j).done : Nat) : Int)) := HBA.out.cell 0
                     have t1 : w11.cell? ⟨gc + 1, 1, none⟩ = some (.int .i8 b1) := HBA.out.cell 1
                     have t2 : w11.cell? ⟨gc + 1, 2, none⟩ = some (.int .i8 b2) := HBA.out.cell 2
                     have t3 : w11.cell? ⟨gc + 1, 3, none⟩ = some (.int .i8 b3) := HBA.out.cell 3
                     have t4 : w11.cell? ⟨gc + 1, 4, none⟩ = some (.int .i8 b4) := HBA.out.cell 4
                     have t5 : w11.cell? ⟨gc + 1, 5, none⟩ = some (.int .i8 b5) := HBA.out.cell 5
                     have t6 : w11.cell? ⟨gc + 1, 6, none⟩ = some (.int .i8 b6) := HBA.out.cell 6
                     have t7 : w11.cell? ⟨gc + 1, 7, none⟩ = some (.int .i8 b7) := HBA.out.cell 7
                     have t8 : w11.cell? ⟨gc + 1, 8, none⟩ = some (.int .i8 b8) := HBA.out.cell 8
                     have t9 : w11.cell? ⟨gc + 1, 9, none⟩ = some (.int .i8 b9) := HBA.out.cell 9
                     have t10 : w11.cell? ⟨gc + 1, 10, none⟩ = some (.int .i8 b10) := HBA.out.cell 10
                     clear hown11 hgrow11 hKA)
                  | (go_simp
                     refine (HCall.out _ _ HKA.out HLA.out).mono ?_
                     intro e wz he
                     obtain ⟨vz, rfl⟩ : ∃ v, e = .returned v := by
                       obtain ⟨v, _, _, h, _⟩ := he
                       exact ⟨v, h⟩
                     have hGo := HGo.out _ _ _ HKA.out he
                     clear he))
                all_goals
                  have HS := Lib.hid hGo
                  clear hGo
                  go_wp2
                  go_meet
                  case rel => exact HS.out
            case rest =>
              have HRes := Lib.hid hcut
              clear hcut s0 s1 s2 s3 s4 s5 s6 s7 s8 s9 s10 HOld HLc HCall HGo HBm HEc HKr HKw Hi Hz0 Hz1 Hz2
              rcases HRes.out with ⟨rfl, hrel⟩ | ⟨g9, c9, rfl, hend⟩
              · have HS := Lib.hid hrel
                clear hrel
                have hq1 : ∀ w : World, (binOp .neq 28 (.slice none 0 0) (.slice none 0 0)).run Tryd.prog w = .ok (.bool false) w := fun w => run_neq_slice_nil w _ _ none 0 0 Tryd.underlying28
                go_wp2_with fail
                go_roundw
                case rel => exact ⟨j + 1, by omega, by go_num, HS.out⟩
                case measure => simp [intOf]; omega
              · have HS := Lib.hid hend
                clear hend
                have hq1 : ∀ (w : World) (a : Addr) (l c : Nat), (binOp .neq 28 (.slice (some a) l c) (.slice none 0 0)).run Tryd.prog w = .ok (.bool true) w := fun w a l c => run_neq_slice_nil w _ _ (some a) l c Tryd.underlying28
                go_wp2_with fail
                go_ret
                exact HS.out
    · obtain rfl : j = cs.length := by omega
      obtain ⟨n', D', ho, hn', hd'⟩ := HRel.out.own
      obtain ⟨w', hup, ho', hgr⟩ := World.ownsMap.update ho.drew dead_keyed Tryd.underlying43 (by
        have h3 : cs.length * cost k ≤ 10 * cost k := Nat.mul_le_mul_right _ hn
        have h4 := HI.out.room
        rw [show cost (k + 1) = 10 * cost k + 1 from rfl] at h4
        unfold maxLen; omega) (skey_of HI.out.st) (plainElem_int (H := Unit) Tryd.underlying3 (a := 1) rfl)
      rw [HSv.out] at hup
      have hnone : first cs (k + 1) s = none := by rw [HRel.out.here]; exact firstFrom_end cs k s _ (Nat.le_refl _)
      have HEnd : Hid (OnEnd cs (k + 1) s ord db n w (.returned (.slice none 0 0)) w') := by
        refine ⟨_, n' + 1, _, rfl, ?_, ho', ?_, deadOk_put hd' (owns_isMap ho).1 HI.out.st (by rw [HI.out.left]; exact hnone), .inl ⟨hnone, rfl⟩⟩
        · exact (HK1.out.trans (HRel.out.keep.mono (fun _ _ q => q))).drew.grown hgr (fun k hk => by simp at hk; exact .inl hk.symm)
        · have h3 : cs.length * cost k ≤ 10 * cost k := Nat.mul_le_mul_right _ hn
          rw [show cost (k + 1) = 10 * cost k + 1 from rfl]
          omega
      clear ho hn' hd' ho' hgr hnone
      go_wp2_with fail
      go_region
      go_wp2_with fail
      go_ret
      exact HEnd.out
end Ord
end Go.Proofs.YtnjcmhpifdaheaaDoor
