/- What is written as a completion is read: plain. -/
import Derived.Test.YtkehhfgoikbciaaDoorDoneD
import Derived.Test.YtkehhfgoikbciaaDoorCmdLaw
namespace Go.Proofs.YtkehhfgoikbciaaDoor
open Go.RowKit Go.WideShapes
set_option linter.unusedVariables false

theorem doneFld_in : ∀ k, k < 4 → (doneFld k).p + (doneFld k).L ≤ 7 :=
  four (P := fun k => (doneFld k).p + (doneFld k).L ≤ 7) (by simp [doneFld]) (by simp [doneFld]) (by simp [doneFld]) (by simp [doneFld])
theorem doneFld_apart (j k : Nat) (hjk : j < k) (hk : k < 4) : (doneFld j).p + (doneFld j).L ≤ (doneFld k).p := by
  rcases (by omega : k = 1 ∨ k = 2 ∨ k = 3) with rfl | rfl | rfl
  · obtain rfl : j = 0 := by omega
    simp [doneFld]
  · rcases (by omega : j = 0 ∨ j = 1) with rfl | rfl <;> simp [doneFld]
  · rcases (by omega : j = 0 ∨ j = 1 ∨ j = 2) with rfl | rfl | rfl <;> simp [doneFld]
theorem done_len (X : Nat → Int) (k : Nat) (hk : k ≤ 4) : (bytesAfter 16 doneFld X k).length = 16 :=
  bytesAfter_length 16 doneFld X 4 (fun k hk => by have := doneFld_in k hk; omega) k hk
theorem done_part (X : Nat → Int) : ∀ m, m ≤ 4 → ∀ k, k < m → ((bytesAfter 16 doneFld X m).drop (doneFld k).p).take (doneFld k).L = leDig (doneFld k).L (X k)
  | 0, _, k, hk => by omega
  | m + 1, hm, k, hk => by
    have hl := done_len X m (by omega)
    have hin := doneFld_in m (by omega)
    simp only [bytesAfter]
    by_cases e : k = m
    · subst e
      have := splice_near (bytesAfter 16 doneFld X k) (leDig (doneFld k).L (X k)) (doneFld k).p (by rw [leDig_length, hl]; omega)
      rw [leDig_length] at this
      exact this
    · rw [splice_far _ _ _ _ _ (by rw [leDig_length, hl]; omega) (.inl (doneFld_apart k m (by omega) (by omega)))]
      exact done_part X m (by omega) k (by omega)
theorem done_seven (X : Nat → Int) : ∀ m, m ≤ 4 → ((bytesAfter 16 doneFld X m).drop 7).take 1 = [0]
  | 0, _ => by simp [bytesAfter]
  | m + 1, hm => by
    have hl := done_len X m (by omega)
    have hin := doneFld_in m (by omega)
    simp only [bytesAfter]
    rw [splice_far _ _ _ _ _ (by rw [leDig_length, hl]; omega) (.inr (by rw [leDig_length]; exact hin))]
    exact done_seven X m (by omega)
theorem doneBytes_len (X : Nat → Int) (ph : Bool) : (doneBytes X ph).length = 16 := by
  unfold doneBytes; split <;> simp [done_len X 4 (by omega)]
theorem doneBytes_byte (X : Nat → Int) (ph : Bool) : ∀ x ∈ doneBytes X ph, 0 ≤ x ∧ x ≤ 255 := by
  intro x hx
  unfold doneBytes at hx
  split at hx
  · rcases List.mem_or_eq_of_mem_set hx with hx | rfl
    · exact bytesAfter_byte 16 doneFld X 4 x hx
    · omega
  · exact bytesAfter_byte 16 doneFld X 4 x hx
theorem doneBytes_seven (X : Nat → Int) (ph : Bool) : (doneBytes X ph).getD 7 0 = if ph then 1 else 0 := by
  have hl := done_len X 4 (by omega)
  unfold doneBytes
  cases ph
  · have e : (((bytesAfter 16 doneFld X 4).drop 7).take 1)[0]? = some 0 := by rw [done_seven X 4 (by omega)]; rfl
    have e2 : (bytesAfter 16 doneFld X 4)[7]? = some 0 := by simpa using e
    simp [List.getD, e2]
  · simp [List.getD, List.getElem?_set_self (show 7 < (bytesAfter 16 doneFld X 4).length by omega)]
theorem doneFld_long : ∀ k, k < 4 → (doneFld k).L = 1 ∨ (doneFld k).L = 2 ∨ (doneFld k).L = 4 ∨ (doneFld k).L = 8 :=
  four (P := fun k => (doneFld k).L = 1 ∨ (doneFld k).L = 2 ∨ (doneFld k).L = 4 ∨ (doneFld k).L = 8) (by simp [doneFld]) (by simp [doneFld]) (by simp [doneFld]) (by simp [doneFld])
theorem doneAt_written (X : Nat → Int) (ph : Bool) (h : allFit doneFld X 4) : ∀ k, k < 4 → doneAt (doneBytes X ph) k = X k := by
  intro k hk
  obtain ⟨h0, h1, _⟩ := fits_lt _ _ (doneFld_long k hk) (h k hk)
  have e : ((doneBytes X ph).drop (doneFld k).p).take (doneFld k).L = leDig (doneFld k).L (X k) := by
    unfold doneBytes
    split
    · rw [set_far _ _ _ _ _ (.inr (doneFld_in k hk)), done_part X 4 (by omega) k hk]
    · exact done_part X 4 (by omega) k hk
  unfold doneAt
  rw [e, leNum_dig _ _ h0 h1]
theorem allFit_258 : allFit doneFld (doneNum 258 0 0 0) 4 :=
  four (P := fun k => fits (doneFld k).L (doneNum 258 0 0 0 k) = true) (by decide) (by decide) (by decide) (by decide)
theorem bytes_258 : doneBytes (doneNum 258 0 0 0) true = [2, 1, 0, 0, 0, 0, 0, 1, 0, 0, 0, 0, 0, 0, 0, 0] := by decide
end Go.Proofs.YtkehhfgoikbciaaDoor
