/- What is written as a command is read: plain. -/
import Derived.Test.YtkehhfgoikbciaaDoorCmdD
namespace Go.Proofs.YtkehhfgoikbciaaDoor
open Go.RowKit Go.WideShapes
set_option linter.unusedVariables false

theorem splice_far (bs ds : List Int) (q p L : Nat) (hq : q + ds.length ≤ bs.length) (h : p + L ≤ q ∨ q + ds.length ≤ p) : ((splice bs q ds).drop p).take L = (bs.drop p).take L := by
  apply List.ext_getElem?
  intro i
  unfold splice
  simp only [List.getElem?_take, List.getElem?_drop, List.getElem?_append, List.length_take, Nat.min_eq_left (show q ≤ bs.length by omega)]
  by_cases hi : i < L
  · rw [if_pos hi, if_pos hi]
    rcases h with h | h
    · rw [if_pos (by omega), if_pos (by omega)]
    · rw [if_neg (by omega), if_neg (by omega)]; congr 1; omega
  · rw [if_neg hi, if_neg hi]
theorem splice_near (bs ds : List Int) (p : Nat) (h : p + ds.length ≤ bs.length) : ((splice bs p ds).drop p).take ds.length = ds := by
  unfold splice
  have e : (bs.take p).length = p := by simp; omega
  rw [List.drop_append_of_le_length (by omega), List.drop_of_length_le (by omega)]
  simp
theorem set_far (bs : List Int) (v : Int) (q p L : Nat) (h : q < p ∨ p + L ≤ q) : ((bs.set q v).drop p).take L = (bs.drop p).take L := by
  apply List.ext_getElem?
  intro i
  simp only [List.getElem?_take, List.getElem?_drop]
  by_cases hi : i < L
  · rw [if_pos hi, if_pos hi, List.getElem?_set_ne (by omega)]
  · rw [if_neg hi, if_neg hi]

theorem cmdFld_in : ∀ k, k < 6 → (cmdFld k).p + (cmdFld k).L ≤ 40 :=
  six (P := fun k => (cmdFld k).p + (cmdFld k).L ≤ 40) (by simp [cmdFld]) (by simp [cmdFld]) (by simp [cmdFld]) (by simp [cmdFld]) (by simp [cmdFld]) (by simp [cmdFld])
theorem cmdFld_apart (j k : Nat) (hjk : j < k) (hk : k < 6) : (cmdFld j).p + (cmdFld j).L ≤ (cmdFld k).p := by
  rcases (by omega : k = 1 ∨ k = 2 ∨ k = 3 ∨ k = 4 ∨ k = 5) with rfl | rfl | rfl | rfl | rfl
  · obtain rfl : j = 0 := by omega
    simp [cmdFld]
  · rcases (by omega : j = 0 ∨ j = 1) with rfl | rfl <;> simp [cmdFld]
  · rcases (by omega : j = 0 ∨ j = 1 ∨ j = 2) with rfl | rfl | rfl <;> simp [cmdFld]
  · rcases (by omega : j = 0 ∨ j = 1 ∨ j = 2 ∨ j = 3) with rfl | rfl | rfl | rfl <;> simp [cmdFld]
  · rcases (by omega : j = 0 ∨ j = 1 ∨ j = 2 ∨ j = 3 ∨ j = 4) with rfl | rfl | rfl | rfl | rfl <;> simp [cmdFld]
theorem bytesAfter_byte (n : Nat) (F : Nat → Fld) (X : Nat → Int) : ∀ m, ∀ x ∈ bytesAfter n F X m, 0 ≤ x ∧ x ≤ 255
  | 0, x, h => by
    have := List.eq_of_mem_replicate h
    subst this; omega
  | m + 1, x, h => by
    rcases mem_splice h with h | h
    · exact bytesAfter_byte n F X m x h
    · exact leDig_byte _ _ x h
theorem cmd_len (X : Nat → Int) (k : Nat) (hk : k ≤ 6) : (bytesAfter 64 cmdFld X k).length = 64 :=
  bytesAfter_length 64 cmdFld X 6 (fun k hk => by have := cmdFld_in k hk; omega) k hk
theorem cmd_part (X : Nat → Int) : ∀ m, m ≤ 6 → ∀ k, k < m → ((bytesAfter 64 cmdFld X m).drop (cmdFld k).p).take (cmdFld k).L = leDig (cmdFld k).L (X k)
  | 0, _, k, hk => by omega
  | m + 1, hm, k, hk => by
    have hl := cmd_len X m (by omega)
    have hin := cmdFld_in m (by omega)
    simp only [bytesAfter]
    by_cases e : k = m
    · subst e
      have := splice_near (bytesAfter 64 cmdFld X k) (leDig (cmdFld k).L (X k)) (cmdFld k).p (by rw [leDig_length, hl]; omega)
      rw [leDig_length] at this
      exact this
    · rw [splice_far _ _ _ _ _ (by rw [leDig_length, hl]; omega) (.inl (cmdFld_apart k m (by omega) (by omega)))]
      exact cmd_part X m (by omega) k (by omega)
theorem fits_lt (L : Nat) (x : Int) (hL : L = 1 ∨ L = 2 ∨ L = 4 ∨ L = 8) (h : fits L x = true) : 0 ≤ x ∧ x < 256 ^ L ∧ x ≤ 4611686018427387904 := by
  unfold fits limOf at h
  rcases hL with rfl | rfl | rfl | rfl
  all_goals simp at h
  all_goals refine ⟨by omega, ?_, by omega⟩
  · have : (256 : Int) ^ 1 = 256 := rfl; omega
  · have : (256 : Int) ^ 2 = 65536 := rfl; omega
  · have : (256 : Int) ^ 4 = 4294967296 := rfl; omega
  · have : (256 : Int) ^ 8 = 18446744073709551616 := rfl; omega
theorem cmdFld_long : ∀ k, k < 6 → (cmdFld k).L = 1 ∨ (cmdFld k).L = 2 ∨ (cmdFld k).L = 4 ∨ (cmdFld k).L = 8 :=
  six (P := fun k => (cmdFld k).L = 1 ∨ (cmdFld k).L = 2 ∨ (cmdFld k).L = 4 ∨ (cmdFld k).L = 8) (by simp [cmdFld]) (by simp [cmdFld]) (by simp [cmdFld]) (by simp [cmdFld]) (by simp [cmdFld]) (by simp [cmdFld])

/-- bytes that say a command -/
structure Says (bs : List Int) (X : Nat → Int) : Prop where
  len : bs.length = 64
  byte : ∀ x ∈ bs, 0 ≤ x ∧ x ≤ 255
  num : ∀ k, k < 6 → cmdAt bs k = X k
  small : ∀ k, k < 6 → X k ≤ 4611686018427387904
theorem Says.ok {bs : List Int} {X : Nat → Int} (h : Says bs X) : cmdOk bs 6 := fun k hk => by rw [h.num k hk]; exact h.small k hk
theorem says_written (X : Nat → Int) (h : allFit cmdFld X 6) : Says (bytesAfter 64 cmdFld X 6) X := by
  refine ⟨cmd_len X 6 (by omega), bytesAfter_byte 64 cmdFld X 6, fun k hk => ?_, fun k hk => (fits_lt _ _ (cmdFld_long k hk) (h k hk)).2.2⟩
  obtain ⟨h0, h1, _⟩ := fits_lt _ _ (cmdFld_long k hk) (h k hk)
  unfold cmdAt
  rw [cmd_part X 6 (by omega) k hk, leNum_dig _ _ h0 h1]
/-- bytes that are none of a command's do not count -/
theorem Says.set {bs : List Int} {X : Nat → Int} (h : Says bs X) (q : Nat) (v : Int) (hv : 0 ≤ v ∧ v ≤ 255) (hq : ∀ k, k < 6 → q < (cmdFld k).p ∨ (cmdFld k).p + (cmdFld k).L ≤ q) : Says (bs.set q v) X := by
  refine ⟨by simpa using h.len, fun x hx => ?_, fun k hk => ?_, h.small⟩
  · rcases List.mem_or_eq_of_mem_set hx with hx | rfl
    · exact h.byte x hx
    · exact hv
  · rw [← h.num k hk]
    unfold cmdAt
    rw [set_far _ _ _ _ _ (hq k hk)]
theorem loose_far (q : Nat) (h : 40 ≤ q ∨ (4 ≤ q ∧ q ≤ 7) ∨ q = 1 ∨ (20 ≤ q ∧ q ≤ 23)) : ∀ k, k < 6 → q < (cmdFld k).p ∨ (cmdFld k).p + (cmdFld k).L ≤ q :=
  six (P := fun k => q < (cmdFld k).p ∨ (cmdFld k).p + (cmdFld k).L ≤ q) (by simp [cmdFld]; omega) (by simp [cmdFld]; omega) (by simp [cmdFld]; omega) (by simp [cmdFld]; omega) (by simp [cmdFld]; omega) (by simp [cmdFld]; omega)
end Go.Proofs.YtkehhfgoikbciaaDoor
