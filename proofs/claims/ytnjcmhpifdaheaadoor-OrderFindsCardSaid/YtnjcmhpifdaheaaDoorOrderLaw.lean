/- The search for an order of calls, in plain terms: what is done, and who wrote last, say all that comes; and what is found is the first right order. -/
import Derived.WalkKit
namespace Go.Proofs.YtnjcmhpifdaheaaDoor
set_option linter.unusedVariables false

/-- a call: from, to, is it a write, block, value -/
structure OCall where
  fr : Int
  to_ : Int
  wr : Bool
  lba : Int
  val : Int

instance : Inhabited OCall := ⟨⟨0, 0, false, 0, 0⟩⟩

/-- who is done, and who wrote last, by the block's first call -/
structure OSt where
  done : Nat
  last : List Nat

namespace Ord

def at_ (cs : List OCall) (i : Nat) : OCall := cs.getD i default

/-- the first call of the block of call i -/
def nameOf (cs : List OCall) (i : Nat) : Nat := cs.findIdx (fun c => decide (c.lba = (at_ cs i).lba))

/-- what stands in the block of call i -/
def cur (cs : List OCall) (s : OSt) (i : Nat) : Int :=
  if s.last.getD (nameOf cs i) 0 = 0 then 0 else (at_ cs (s.last.getD (nameOf cs i) 0 - 1)).val

/-- may call i be next? -/
def ok (cs : List OCall) (s : OSt) (i : Nat) : Bool :=
  !s.done.testBit i && ((List.range cs.length).all fun k => !decide ((at_ cs k).to_ ≤ (at_ cs i).fr) || s.done.testBit k) && ((at_ cs i).wr || decide (cur cs s i = (at_ cs i).val))

def next (cs : List OCall) (s : OSt) (i : Nat) : OSt :=
  ⟨s.done ||| 1 <<< i, if (at_ cs i).wr then s.last.set (nameOf cs i) (i + 1) else s.last⟩

/-- how many are not done -/
def left (cs : List OCall) (s : OSt) : Nat := (List.range cs.length).countP fun j => !s.done.testBit j

def first (cs : List OCall) : Nat → OSt → Option (List Nat)
  | 0, _ => some []
  | k + 1, s => (List.range cs.length).findSome? fun i => if ok cs s i then (first cs k (next cs s i)).map (i :: ·) else none

/-- the calls from i on -/
def firstFrom (cs : List OCall) (k : Nat) (s : OSt) (i : Nat) : Option (List Nat) :=
  (List.range' i (cs.length - i)).findSome? fun i => if ok cs s i then (first cs k (next cs s i)).map (i :: ·) else none

theorem first_from (cs : List OCall) (k : Nat) (s : OSt) : first cs (k + 1) s = firstFrom cs k s 0 := by
  simp [first, firstFrom, List.range_eq_range']
theorem firstFrom_end (cs : List OCall) (k : Nat) (s : OSt) (i : Nat) (h : cs.length ≤ i) : firstFrom cs k s i = none := by
  unfold firstFrom
  rw [show cs.length - i = 0 by omega]
  rfl
theorem firstFrom_skip (cs : List OCall) (k : Nat) (s : OSt) (i : Nat) (h : i < cs.length) (ho : ok cs s i = false) : firstFrom cs k s i = firstFrom cs k s (i + 1) := by
  unfold firstFrom
  rw [show cs.length - i = (cs.length - (i + 1)) + 1 by omega, List.range'_succ]
  simp [ho]
theorem firstFrom_none (cs : List OCall) (k : Nat) (s : OSt) (i : Nat) (h : i < cs.length) (hn : first cs k (next cs s i) = none) : firstFrom cs k s i = firstFrom cs k s (i + 1) := by
  unfold firstFrom
  rw [show cs.length - i = (cs.length - (i + 1)) + 1 by omega, List.range'_succ]
  simp [hn]
theorem firstFrom_some (cs : List OCall) (k : Nat) (s : OSt) (i : Nat) (h : i < cs.length) (ho : ok cs s i = true) (r : List Nat) (hn : first cs k (next cs s i) = some r) : firstFrom cs k s i = some (i :: r) := by
  unfold firstFrom
  rw [show cs.length - i = (cs.length - (i + 1)) + 1 by omega, List.range'_succ]
  simp [ho, hn]

theorem ok_done {cs : List OCall} {s : OSt} {i : Nat} (h : ok cs s i = true) : s.done.testBit i = false := by
  unfold ok at h
  simp only [Bool.and_eq_true, Bool.not_eq_true'] at h
  exact h.1.1

theorem next_bit (cs : List OCall) (s : OSt) (i j : Nat) : (next cs s i).done.testBit j = (s.done.testBit j || decide (j = i)) := by
  show (s.done ||| 1 <<< i).testBit j = _
  rw [Nat.testBit_or, Nat.one_shiftLeft, Nat.testBit_two_pow]
  by_cases h : j = i
  · subst h; simp
  · have : ¬ i = j := fun q => h q.symm
    simp [h, this]

theorem countP_turn (p q : Nat → Bool) (i : Nat) (hp : p i = true) (hq : q i = false) (ho : ∀ j, j ≠ i → q j = p j) : ∀ n, i < n → (List.range n).countP q + 1 = (List.range n).countP p
  | 0, h => absurd h (Nat.not_lt_zero _)
  | n + 1, h => by
    rw [List.range_succ, List.countP_append, List.countP_append]
    by_cases hn : i = n
    · subst hn
      have e : (List.range i).countP q = (List.range i).countP p := List.countP_congr (fun j hj => by
        rw [ho j (by have := List.mem_range.1 hj; omega)])
      simp [hp, hq, e]
    · have := countP_turn p q i hp hq ho n (by omega)
      have e : q n = p n := ho n (fun h => hn h.symm)
      have e2 : [n].countP q = [n].countP p := by simp [List.countP_cons, e]
      omega

theorem left_next {cs : List OCall} {s : OSt} {i : Nat} (h : ok cs s i = true) (hi : i < cs.length) : left cs (next cs s i) + 1 = left cs s := by
  unfold left
  refine countP_turn _ _ i ?_ ?_ ?_ _ hi
  · simp [ok_done h]
  · simp [next_bit]
  · intro j hj
    simp [next_bit, hj]

theorem left_start (cs : List OCall) (l : List Nat) : left cs ⟨0, l⟩ = cs.length := by
  unfold left
  simp
end Ord
end Go.Proofs.YtnjcmhpifdaheaaDoor
