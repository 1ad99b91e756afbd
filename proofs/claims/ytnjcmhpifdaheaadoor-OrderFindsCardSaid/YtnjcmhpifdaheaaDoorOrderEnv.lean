/- What stands in memory while an order is looked for. -/
import Derived.Test.YtnjcmhpifdaheaaDoorOrderKey
import Derived.Test.YtnjcmhpifdaheaaDoorOrderRight
import Derived.Laws.BitsAllLaws
namespace Go.Proofs.YtnjcmhpifdaheaaDoor
open Go.RowKit
set_option linter.unusedVariables false
namespace Ord

/-- who must stand ahead of call i, of the first m calls: a bit for each -/
def aheadTo (cs : List OCall) (i : Nat) : Nat → Nat
  | 0 => 0
  | m + 1 => if (at_ cs m).to_ ≤ (at_ cs i).fr then aheadTo cs i m ||| 1 <<< m else aheadTo cs i m
def aheadN (cs : List OCall) (i : Nat) : Nat := aheadTo cs i cs.length
theorem aheadTo_bit (cs : List OCall) (i k : Nat) : ∀ m, (aheadTo cs i m).testBit k = (decide (k < m) && decide ((at_ cs k).to_ ≤ (at_ cs i).fr))
  | 0 => by simp [aheadTo]
  | m + 1 => by
    unfold aheadTo
    by_cases h : (at_ cs m).to_ ≤ (at_ cs i).fr
    · rw [if_pos h, Nat.testBit_or, aheadTo_bit cs i k m, Nat.one_shiftLeft, Nat.testBit_two_pow]
      by_cases e : m = k
      · subst e; simp [h]
      · simp only [e, decide_false, Bool.or_false]
        congr 1
        exact decide_eq_decide.2 (by omega)
    · rw [if_neg h, aheadTo_bit cs i k m]
      by_cases e : m = k
      · subst e; simp [h]
      · congr 1
        exact decide_eq_decide.2 (by omega)
theorem aheadTo_lt (cs : List OCall) (i : Nat) : ∀ m, m ≤ 16 → aheadTo cs i m < 65536
  | 0, _ => by simp [aheadTo]
  | m + 1, h => by
    have ih := aheadTo_lt cs i m (by omega)
    unfold aheadTo
    split
    · refine Nat.or_lt_two_pow (n := 16) ih ?_
      rw [Nat.one_shiftLeft]
      exact Nat.pow_lt_pow_right (by omega) (by omega)
    · exact ih
/-- all that must stand ahead is done -/
def clear_ (cs : List OCall) (s : OSt) (i : Nat) : Bool := (List.range cs.length).all fun k => !decide ((at_ cs k).to_ ≤ (at_ cs i).fr) || s.done.testBit k
theorem and_not_zero (a d : Nat) (ha : a < 65536) (hd : d < 65536) : (a &&& (65535 - d)) = 0 ↔ ∀ k, a.testBit k = true → d.testBit k = true := by
  have e : ∀ k, (65535 - d).testBit k = (decide (k < 16) && !d.testBit k) := fun k => by
    have := Nat.testBit_two_pow_sub_succ (n := 16) (x := d) (by omega) k
    rw [← this]
    congr 1
    omega
  constructor
  · intro h k hk
    have h1 : (a &&& (65535 - d)).testBit k = false := by rw [h]; simp
    rw [Nat.testBit_and, e, hk] at h1
    have hk16 : k < 16 := Decidable.byContradiction fun hno => by
      rw [Nat.testBit_lt_two_pow (Nat.lt_of_lt_of_le ha (show 2 ^ 16 ≤ 2 ^ k from Nat.pow_le_pow_right (by omega) (by omega)))] at hk
      cases hk
    simpa [hk16] using h1
  · intro h
    refine Nat.eq_of_testBit_eq fun k => ?_
    rw [Nat.testBit_and, e, Nat.zero_testBit]
    cases hk : a.testBit k
    · rfl
    · simp [h k hk]
theorem clear_iff (cs : List OCall) (s : OSt) (i : Nat) (hn : cs.length ≤ 10) (hd : s.done < 65536) : ((aheadN cs i &&& (65535 - s.done)) = 0) ↔ clear_ cs s i = true := by
  refine (and_not_zero (aheadN cs i) _ (aheadTo_lt cs i _ (by omega)) hd).trans ?_
  unfold clear_
  rw [List.all_eq_true]
  constructor
  · intro h k hk
    have := h k
    unfold aheadN at this
    rw [aheadTo_bit] at this
    by_cases ht : (at_ cs k).to_ ≤ (at_ cs i).fr
    · rw [this (by simp [ht, List.mem_range.1 hk])]; simp
    · simp [ht]
  · intro h k hk
    unfold aheadN at hk
    rw [aheadTo_bit] at hk
    simp only [Bool.and_eq_true, decide_eq_true_eq] at hk
    have := h k (List.mem_range.2 hk.1)
    simpa [hk.2] using this
theorem ok_eq (cs : List OCall) (s : OSt) (i : Nat) : ok cs s i = (!s.done.testBit i && clear_ cs s i && ((at_ cs i).wr || decide (cur cs s i = (at_ cs i).val))) := rfl

/-! a state -/
theorem next_ok {cs : List OCall} {s : OSt} {i : Nat} (h : StOk s) (hn : cs.length ≤ 10) (hi : i < cs.length) : StOk (next cs s i) := by
  refine ⟨?_, ?_, ?_⟩
  · show s.done ||| 1 <<< i < 65536
    refine Nat.or_lt_two_pow (n := 16) h.done ?_
    rw [Nat.one_shiftLeft]
    exact Nat.pow_lt_pow_right (by omega) (by omega)
  · unfold next
    dsimp only
    split <;> simp [h.len]
  · intro x hx
    unfold next at hx
    dsimp only at hx
    split at hx
    · rcases List.mem_or_eq_of_mem_set hx with hx | hx
      · exact h.last x hx
      · omega
    · exact h.last x hx
def start : OSt := ⟨0, List.replicate 10 0⟩
theorem start_ok : StOk start := ⟨by decide, by decide, by decide⟩

/-- the state's cells when call i is done -/
theorem cells_next (cs : List OCall) (s : OSt) (i : Nat) (h : StOk s) : stCells (next cs s i) =
    if (at_ cs i).wr then ((stCells s).setIfInBounds 0 (.int .u16 ((s.done ||| 1 <<< i : Nat) : Int))).setIfInBounds (1 + nameOf cs i) (.int .i8 ((i + 1 : Nat) : Int)) else (stCells s).setIfInBounds 0 (.int .u16 ((s.done ||| 1 <<< i : Nat) : Int)) := by
  unfold next stCells
  cases (at_ cs i).wr
  · simp
  · simp only [if_true]
    apply Array.ext'
    simp [Nat.add_comm 1]

/-! the maps -/
abbrev MapD := DataW Unit
/-- 'now' says what the state's last writers say -/
def NowOk (cs : List OCall) (s : OSt) (D : MapD) : Prop := ∀ i, i < cs.length → D.atKey (.int .i64 (at_ cs i).lba) (.lit (.int .i64 0)) = .lit (.int .i64 (cur cs s i))
/-- what is said to be dead has no order -/
def DeadOk (cs : List OCall) (D : MapD) : Prop := ∀ s, StOk s → D.atKey (skey s) (.lit (.int .i64 0)) = .lit (.int .i64 1) → first cs (left cs s) s = none
theorem nowOk_write {cs : List OCall} {s : OSt} {D : MapD} (h : NowOk cs s D) (hD : Maps.IsMap D) (hs : StOk s) (hn : cs.length ≤ 10) (i : Nat) (hi : i < cs.length) (hw : (at_ cs i).wr = true) : NowOk cs (next cs s i) (D.put (.int .i64 (at_ cs i).lba) (.lit (.int .i64 (at_ cs i).val))) := by
  intro j hj
  rw [cur_next cs s i j hi hj (by rw [hs.len]; exact hn), hw]
  by_cases e : (at_ cs i).lba = (at_ cs j).lba
  · rw [if_pos (by simp [e]), e, Maps.atKey_put_same hD (show WideAt.IsKeyLit (Lit.int .i64 (at_ cs j).lba) from trivial)]
  · rw [if_neg (by simp [e]), Maps.atKey_put_other (by simp; exact fun q => e q.symm)]
    exact h j hj
theorem nowOk_read {cs : List OCall} {s : OSt} {D : MapD} (h : NowOk cs s D) (hs : StOk s) (hn : cs.length ≤ 10) (i : Nat) (hi : i < cs.length) (hw : (at_ cs i).wr = false) : NowOk cs (next cs s i) D := by
  intro j hj
  rw [cur_next cs s i j hi hj (by rw [hs.len]; exact hn), hw]
  exact h j hj
theorem nowOk_start (cs : List OCall) : NowOk cs start (.map []) := by
  intro i hi
  have e : (List.replicate 10 0).getD (nameOf cs i) 0 = 0 := by
    unfold List.getD
    rw [List.getElem?_replicate]
    split <;> rfl
  unfold cur
  rw [show Ord.start.last = List.replicate 10 0 from rfl, e]
  rfl
theorem deadOk_start (cs : List OCall) : DeadOk cs (.map []) := by
  intro s hs h
  simp [DataW.atKey] at h
theorem deadOk_put {cs : List OCall} {D : MapD} (h : DeadOk cs D) (hD : Maps.IsMap D) {s : OSt} (hs : StOk s) (hf : first cs (left cs s) s = none) : DeadOk cs (D.put (skey s) (.lit (.int .i64 1))) := by
  intro t ht hk
  by_cases e : skey t = skey s
  · rw [skey_inj ht hs e]; exact hf
  · rw [Maps.atKey_put_other e] at hk
    exact h t ht hk

/-! the calls, and the search -/
def callCells (c : OCall) : List Value := [.int .i64 c.fr, .int .i64 c.to_, .bool c.wr, .int .i64 c.lba, .int .i64 c.val]
structure CallWf (c : OCall) : Prop where
  fr : (Lit.int .i64 c.fr).wf = true
  to_ : (Lit.int .i64 c.to_).wf = true
  lba : (Lit.int .i64 c.lba).wf = true
  val : (Lit.int .i64 c.val).wf = true
/-- the calls stand in a block -/
def CallsAt (w : World) (cb off : Nat) (cs : List OCall) : Prop := cb < w.heap.size ∧ (∀ i, i < cs.length → ∀ q v, (callCells (at_ cs i))[q]? = some v → w.cell? ⟨cb, off + i * 5 + q, none⟩ = some v) ∧ ∀ i, i < cs.length → CallWf (at_ cs i)
theorem CallsAt.keep {w w' : World} {cb off : Nat} {cs : List OCall} {S : Nat → Prop} (h : CallsAt w cb off cs) (hk : Keep S w w') (hS : ¬ S cb) : CallsAt w' cb off cs :=
  ⟨Nat.lt_of_lt_of_le h.1 hk.size, fun i hi q v hv => (hk.cell (p := ⟨cb, off + i * 5 + q, none⟩) h.1 hS).trans (h.2.1 i hi q v hv), h.2.2⟩
def aheadCells (cs : List OCall) : Array Value := ((List.range cs.length).map fun i => Value.int .u16 ((aheadN cs i : Nat) : Int)).toArray
structure Env (cs : List OCall) (sb db ab cb off cap : Nat) (w : World) : Prop where
  search : Blk w sb #[.slice (some ⟨cb, off, none⟩) cs.length cap, .slice (some ⟨ab, 0, none⟩) cs.length cs.length, .map (some db)] 45
  ahead : Blk w ab (aheadCells cs) 46
  calls : CallsAt w cb off cs
  sd : sb ≠ db
  ad : ab ≠ db
  cd : cb ≠ db
theorem Env.keep {cs : List OCall} {sb db ab cb off cap : Nat} {w w' : World} (h : Env cs sb db ab cb off cap w) (hk : Keep (· = db) w w') : Env cs sb db ab cb off cap w' :=
  ⟨hk.blk h.search h.sd, hk.blk h.ahead h.ad, h.calls.keep hk h.cd, h.sd, h.ad, h.cd⟩

/-- a list of calls' numbers, in a block of its own -/
def LAt (w : World) (v : Value) (ord : List Nat) : Prop :=
  (v = .slice none 0 0 ∧ ord = []) ∨ ∃ g cap, v = .slice (some ⟨g, 0, none⟩) ord.length cap ∧ 0 < ord.length ∧ ord.length ≤ cap ∧ g < w.heap.size ∧ ∀ i, i < ord.length → w.cell? ⟨g, i, none⟩ = some (.int .i64 ((ord.getD i 0 : Nat) : Int))
theorem LAt.keep {w w' : World} {v : Value} {ord : List Nat} {db : Nat} (h : LAt w v ord) (hk : Keep (· = db) w w') (hd : ∃ es c, w.heap[db]? = some (.map es c)) : LAt w' v ord := by
  refine h.imp id ?_
  rintro ⟨g, cap, h1, h2, h3, h4, h5⟩
  refine ⟨g, cap, h1, h2, h3, Nat.lt_of_lt_of_le h4 hk.size, fun i hi => ?_⟩
  refine (hk.cell (p := ⟨g, i, none⟩) h4 ?_).trans (h5 i hi)
  rintro rfl
  obtain ⟨es, c, e⟩ := hd
  have := h5 i hi
  simp [World.cell?, e] at this

def cost : Nat → Nat
  | 0 => 0
  | k + 1 => 10 * cost k + 1
/-- how the search ends -/
def OnEnd (cs : List OCall) (k : Nat) (s : OSt) (ord : List Nat) (db n : Nat) (w : World) (e : Ending) (w' : World) : Prop :=
  ∃ v n' D', e = .returned v ∧ Keep (· = db) w w' ∧ w'.ownsMap Tryd.prog 52 (plainElem Tryd.prog 3) db n' D' ∧ n' ≤ n + cost k ∧ DeadOk cs D' ∧
    ((first cs k s = none ∧ v = .slice none 0 0) ∨ ∃ r, first cs k s = some r ∧ ∃ g cap, v = .slice (some ⟨g, 0, none⟩) (ord ++ r).length cap ∧ LAt w' v (ord ++ r))
theorem owns_isMap {w : World} {P : Program} {k : TypeId} {R : Value → Option (MapD × List MemPlace)} {b n : Nat} {D : MapD} (h : w.ownsMap P k R b n D) : Maps.IsMap D ∧ ∃ es c, w.heap[b]? = some (.map es c) := by
  obtain ⟨es, c, h1, _, _, h2⟩ := h
  exact ⟨⟨_, h2⟩, es, c, h1⟩
theorem owns_keep {w w' : World} {P : Program} {k : TypeId} {R : Value → Option (MapD × List MemPlace)} {b n : Nat} {D : MapD} (h : w.ownsMap P k R b n D) {S : Nat → Prop} (hk : Keep S w w') (hS : ¬ S b) : w'.ownsMap P k R b n D := by
  have hl := h.lt
  obtain ⟨es, c, h1, h2⟩ := h
  exact ⟨es, c, (hk.block b hl hS).trans h1, h2⟩
end Ord
end Go.Proofs.YtnjcmhpifdaheaaDoor
