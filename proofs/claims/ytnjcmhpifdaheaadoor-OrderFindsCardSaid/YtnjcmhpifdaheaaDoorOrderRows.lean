/- A row of calls that a walk owns. -/
import Derived.Test.YtnjcmhpifdaheaaDoorOrderCallsRd
import Derived.Test.YtnjcmhpifdaheaaDoorOrderRef
import Derived.Laws.OwnMore
namespace Go.Proofs.YtnjcmhpifdaheaaDoor
open Go.RowKit
set_option linter.unusedVariables false
namespace Ord

def flat (ms : List OCall) : List Value := ms.flatMap callCells
theorem callCells_length (c : OCall) : (callCells c).length = 5 := rfl
theorem flat_cons (c : OCall) (r : List OCall) : flat (c :: r) = callCells c ++ flat r := rfl
theorem flat_append (a b : List OCall) : flat (a ++ b) = flat a ++ flat b := by simp [flat]
theorem flat_length : ∀ ms : List OCall, (flat ms).length = ms.length * 5
  | [] => rfl
  | c :: r => by rw [flat_cons, List.length_append, callCells_length, flat_length r, List.length_cons]; omega
theorem at_cons_succ (c : OCall) (r : List OCall) (i : Nat) : at_ (c :: r) (i + 1) = at_ r i := by simp [at_, List.getD]
theorem flat_get : ∀ (ms : List OCall) (i q : Nat), i < ms.length → q < 5 → (flat ms)[i * 5 + q]? = (callCells (at_ ms i))[q]?
  | [], i, _, h, _ => absurd h (Nat.not_lt_zero _)
  | c :: r, 0, q, _, hq => by
    rw [flat_cons, List.getElem?_append_left (by rw [callCells_length]; omega), Nat.zero_mul, Nat.zero_add]
    rfl
  | c :: r, i + 1, q, h, hq => by
    rw [flat_cons, List.getElem?_append_right (by rw [callCells_length]; omega), callCells_length, show (i + 1) * 5 + q - 5 = i * 5 + q by omega, flat_get r i q (by simpa using h) hq, at_cons_succ]
theorem flat_at (ms : List OCall) (j : Nat) (h : j < ms.length * 5) : (flat ms)[j]? = (callCells (at_ ms (j / 5)))[j % 5]? := by
  have := flat_get ms (j / 5) (j % 5) (by omega) (by omega)
  rw [show j / 5 * 5 + j % 5 = j by omega] at this
  exact this
theorem flat_set : ∀ (ms : List OCall) (i q : Nat) (u : Value) (c : OCall), i < ms.length → q < 5 → (callCells (at_ ms i)).set q u = callCells c → (flat ms).set (i * 5 + q) u = flat (ms.set i c)
  | [], i, _, _, _, h, _, _ => absurd h (Nat.not_lt_zero _)
  | d :: r, 0, q, u, c, _, hq, he => by
    rw [flat_cons, Nat.zero_mul, Nat.zero_add, List.set_append_left _ _ (by rw [callCells_length]; omega)]
    rw [show at_ (d :: r) 0 = d from rfl] at he
    rw [he]; rfl
  | d :: r, i + 1, q, u, c, h, hq, he => by
    rw [flat_cons, List.set_append_right _ _ (by rw [callCells_length]; omega), callCells_length, show (i + 1) * 5 + q - 5 = i * 5 + q by omega]
    rw [at_cons_succ] at he
    rw [flat_set r i q u c (by simpa using h) hq he]
    rfl

/-- a row that the call owns -/
def MRow (base : Nat) (w : World) (v : Value) (ms : List OCall) : Prop := w.ownsRow base 39 5 v ms.length (flat ms)
theorem MRow.form {base : Nat} {w : World} {v : Value} {ms : List OCall} (h : MRow base w v ms) : ∃ a cap, v = .slice a ms.length cap ∧ (0 < ms.length → ∃ g, a = some ⟨g, 0, none⟩ ∧ base ≤ g ∧ g < w.heap.size) := by
  obtain ⟨_, ⟨e, h0⟩ | ⟨g, cap, cur, e, h1, h2, _⟩⟩ := h
  · exact ⟨none, 0, by rw [e, h0], fun q => absurd q (by omega)⟩
  · exact ⟨_, cap, e, fun _ => ⟨g, rfl, h1, (Array.getElem?_eq_some_iff.1 h2).1⟩⟩
theorem MRow.own {base : Nat} {w : World} {v : Value} {ms : List OCall} (h : MRow base w v ms) {g : Nat} (hg : v.ownBlock = some g) : base ≤ g ∧ g < w.heap.size := by
  obtain ⟨_, ⟨e, h0⟩ | ⟨g', cap, cur, e, h1, h2, _⟩⟩ := h
  · subst e; cases hg
  · subst e; cases hg; exact ⟨h1, (Array.getElem?_eq_some_iff.1 h2).1⟩
theorem MRow.capLe {base : Nat} {w : World} {a : Option Addr} {n cap : Nat} {ms : List OCall} (h : MRow base w (.slice a n cap) ms) : ms.length ≤ cap := by
  obtain ⟨_, ⟨e, h0⟩ | ⟨g', cap', cur, e, h1, h2, h3, _⟩⟩ := h
  · omega
  · cases e; exact h3
theorem MRow.isCalls {base : Nat} {w : World} {a : Option Addr} {n cap : Nat} {ms : List OCall} (h : MRow base w (.slice a n cap) ms) (hwf : ∀ i, i < ms.length → CallWf (at_ ms i)) : IsCalls w a ms := by
  by_cases h0 : ms.length = 0
  · exact .inl h0
  · obtain ⟨a', cap', e, hg⟩ := h.form
    cases e
    obtain ⟨g, rfl, h1, h2⟩ := hg (by omega)
    refine .inr ⟨g, 0, rfl, h2, fun i hi q u hu => ?_, hwf⟩
    have hq : q < 5 := (List.getElem?_eq_some_iff.1 hu).1
    rw [Nat.zero_add, World.ownsRow.cellAt h (i * 5 + q) (by omega), flat_get ms i q hi hq, hu]
theorem MRow.cell {base : Nat} {w : World} {g n cap : Nat} {ms : List OCall} (h : MRow base w (.slice (some ⟨g, 0, none⟩) n cap) ms) {i q : Nat} (hi : i < ms.length) (hq : q < 5) : w.cell? ⟨g, i * 5 + q, none⟩ = (callCells (at_ ms i))[q]? := by
  obtain ⟨a', cap', e, _⟩ := h.form
  cases e
  rw [World.ownsRow.cellAt h (i * 5 + q) (by omega), flat_get ms i q hi hq]
theorem MRow.free {base : Nat} {w : World} {g n cap : Nat} {ms : List OCall} (h : MRow base w (.slice (some ⟨g, 0, none⟩) n cap) ms) (j : Nat) : w.frozen? ⟨g, j, none⟩ = false := by
  obtain ⟨a', cap', e, _⟩ := h.form
  cases e
  exact World.ownsRow.frozenAt h j
theorem MRow.keep {base : Nat} {w w' : World} {v : Value} {ms : List OCall} (h : MRow base w v ms) {S : Nat → Prop} (hk : Keep S w w') (hS : ∀ g, v.ownBlock = some g → ¬ S g) : MRow base w' v ms := by
  obtain ⟨hl, ⟨e, h0⟩ | ⟨g, cap, cur, e, h1, h2, h3⟩⟩ := h
  · exact ⟨hl, .inl ⟨e, h0⟩⟩
  · refine ⟨hl, .inr ⟨g, cap, cur, e, h1, ?_, h3⟩⟩
    subst e
    exact (hk.block g (Array.getElem?_eq_some_iff.1 h2).1 (hS g rfl)).trans h2
theorem MRow.keep0 {base : Nat} {w w' : World} {v : Value} {ms : List OCall} (h : MRow base w v ms) (hk : Keep (fun _ => False) w w') : MRow base w' v ms := h.keep hk (fun _ _ q => q)
theorem MRow.set {base : Nat} {w : World} {g n cap : Nat} {ms : List OCall} (h : MRow base w (.slice (some ⟨g, 0, none⟩) n cap) ms) {i q : Nat} {u : Value} {c : OCall} (hi : i < ms.length) (hq : q < 5) (he : (callCells (at_ ms i)).set q u = callCells c) :
    MRow base (w.setCell ⟨g, i * 5 + q, none⟩ u) (.slice (some ⟨g, 0, none⟩) n cap) (ms.set i c) := by
  obtain ⟨a', cap', e, _⟩ := h.form
  cases e
  have := (World.ownsRow.stored h (i * 5 + q) u).1
  rw [flat_set ms i q u c hi hq he] at this
  unfold MRow
  rw [List.length_set]
  exact this
/-- a part of it -/
theorem MRow.part {base : Nat} {w : World} {g n cap : Nat} {ms : List OCall} (h : MRow base w (.slice (some ⟨g, 0, none⟩) n cap) ms) (s t : Nat) : ∀ j u, (flat ((ms.drop s).take t))[j]? = some u → w.cell? ⟨g, s * 5 + j, none⟩ = some u := by
  intro j u hj
  have hjl : j < ((ms.drop s).take t).length * 5 := by have := (List.getElem?_eq_some_iff.1 hj).1; rw [flat_length] at this; exact this
  rw [List.length_take, List.length_drop] at hjl
  obtain ⟨a', cap', e, _⟩ := h.form
  cases e
  rw [World.ownsRow.cellAt h (s * 5 + j) (by omega), ← hj]
  have e1 : ms = ms.take s ++ ((ms.drop s).take t ++ (ms.drop s).drop t) := by rw [List.take_append_drop, List.take_append_drop]
  have e2 : (flat ms)[s * 5 + j]? = (flat (ms.take s ++ ((ms.drop s).take t ++ (ms.drop s).drop t)))[s * 5 + j]? := by rw [← e1]
  rw [e2, flat_append, List.getElem?_append_right (by rw [flat_length, List.length_take]; omega), flat_append, flat_length, List.length_take, show min s ms.length = s by omega, show s * 5 + j - s * 5 = j by omega]
  rw [List.getElem?_append_left (by rw [flat_length, List.length_take, List.length_drop]; omega)]
/-- the cells of calls that came in, for append -/
theorem news_calls {w : World} {a : Option Addr} {cs : List OCall} (h : IsCalls w a cs) : ∀ b, a = some b → ∀ j u, (flat cs)[j]? = some u → w.cell? (b.add j) = some u := by
  intro b hb j u hj
  have hjl : j < cs.length * 5 := by have := (List.getElem?_eq_some_iff.1 hj).1; rw [flat_length] at this; exact this
  obtain ⟨cb, off, e, hc⟩ := h.resolve_left (by omega)
  rw [hb] at e
  cases e
  rw [flat_at cs j hjl] at hj
  have := hc.2.1 (j / 5) (by omega) (j % 5) u hj
  rw [WideShapes.add_plain, show off + j = off + j / 5 * 5 + j % 5 by omega]
  exact this
theorem flat_one (ms : List OCall) : ∀ u ∈ flat ms, u.oneCell' = true := by
  intro u hu
  obtain ⟨c, _, hc⟩ := List.mem_flatMap.1 hu
  simp [callCells] at hc
  rcases hc with rfl | rfl | rfl | rfl | rfl <;> rfl
theorem wf_in {x : Int} (h0 : -9223372036854775808 ≤ x) (h1 : x ≤ 9223372036854775807) : (Lit.int .i64 x).wf = true := by
  simp [Lit.wf, IntKind.min, IntKind.max, IntKind.signed, IntKind.bits]; omega
theorem CallWf.of_range {c : OCall} (h0 : -9223372036854775808 ≤ c.fr ∧ c.fr ≤ 9223372036854775807) (h1 : -9223372036854775808 ≤ c.to_ ∧ c.to_ ≤ 9223372036854775807) (h2 : -9223372036854775808 ≤ c.lba ∧ c.lba ≤ 9223372036854775807) (h3 : -9223372036854775808 ≤ c.val ∧ c.val ≤ 9223372036854775807) : CallWf c := by
  constructor <;> (simp [Lit.wf, IntKind.min, IntKind.max, IntKind.signed, IntKind.bits]; omega)
end Ord
end Go.Proofs.YtnjcmhpifdaheaaDoor
