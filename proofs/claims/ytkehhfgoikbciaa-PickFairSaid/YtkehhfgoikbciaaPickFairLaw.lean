/- The plain law of PickFair: as long as queue q waits, it has a turn in as many turns as all weights together. -/
import Derived.Test.YtkehhfgoikbciaaPickGo
namespace Go.Proofs.Ytkehhfgoikbciaa
set_option linter.unusedVariables false

def sumN (f : Nat → Int) : Nat → Int
  | 0 => 0
  | n + 1 => sumN f n + f n
theorem sumN_add (f : Nat → Int) (a : Nat) : ∀ b, sumN f (a + b) = sumN f a + sumN (fun i => f (a + i)) b
  | 0 => by simp [sumN]
  | b + 1 => by
    have := sumN_add f a b
    show sumN f (a + b) + f (a + b) = _
    rw [this]
    simp only [sumN]
    omega
theorem sumN_congr {f g : Nat → Int} : ∀ {n : Nat}, (∀ i, i < n → f i = g i) → sumN f n = sumN g n
  | 0, _ => rfl
  | n + 1, h => by simp only [sumN]; rw [sumN_congr (fun i hi => h i (by omega)), h n (by omega)]
theorem sumN_nonneg {f : Nat → Int} : ∀ {n : Nat}, (∀ i, i < n → 0 ≤ f i) → 0 ≤ sumN f n
  | 0, _ => Int.le_refl _
  | n + 1, h => by
    have := sumN_nonneg (f := f) (n := n) (fun i hi => h i (by omega))
    have := h n (by omega)
    simp only [sumN]; omega
theorem sumN_le {f : Nat → Int} {m n : Nat} (h : m ≤ n) (h0 : ∀ i, i < n → 0 ≤ f i) : sumN f m ≤ sumN f n := by
  obtain ⟨b, rfl⟩ : ∃ b, n = m + b := ⟨n - m, by omega⟩
  rw [sumN_add]
  have := sumN_nonneg (f := fun i => f (m + i)) (n := b) (fun i hi => h0 _ (by omega))
  omega
theorem cyc_low {k n i : Nat} (h : k + 1 + i < n) : cyc k n i = k + 1 + i := Nat.mod_eq_of_lt h
theorem cyc_high {k n i : Nat} (hk : k < n) (hi : i < n) (h : n ≤ k + 1 + i) : cyc k n i = k + 1 + i - n := by
  unfold cyc
  rw [Nat.mod_eq_sub_mod h, Nat.mod_eq_of_lt (by omega)]
theorem sumN_cyc (f : Nat → Int) {k n : Nat} (hk : k < n) : sumN (fun i => f (cyc k n i)) n = sumN f n := by
  obtain ⟨m, rfl⟩ : ∃ m, n = m + (k + 1) := ⟨n - (k + 1), by omega⟩
  have e1 := sumN_add (fun i => f (cyc k (m + (k + 1)) i)) m (k + 1)
  have e2 := sumN_add f (k + 1) m
  rw [e1, Nat.add_comm m (k + 1), e2]
  have a1 : sumN (fun i => f (cyc k (k + 1 + m) i)) m = sumN (fun i => f (k + 1 + i)) m := sumN_congr fun i hi => by rw [cyc_low (by omega)]
  have a2 : sumN (fun i => f (cyc k (k + 1 + m) (m + i))) (k + 1) = sumN f (k + 1) := sumN_congr fun i hi => by
    rw [cyc_high (by omega) (by omega) (by omega)]
    congr 1
    omega
  rw [a1, a2]
  omega

/-- how many steps from k round to q (1 to n) -/
def steps (n q k : Nat) : Nat := if k < q then q - k else q + n - k
theorem steps_pos {n q k : Nat} (hk : k < n) (hq : q < n) : 1 ≤ steps n q k ∧ steps n q k ≤ n := by unfold steps; split <;> omega
theorem cyc_steps {n q k : Nat} (hk : k < n) (hq : q < n) : cyc k n (steps n q k - 1) = q := by
  unfold steps
  split
  · rw [cyc_low (by omega)]; omega
  · rw [cyc_high hk (by omega) (by omega)]; omega
/-- how many turns go by ahead of q's, at most -/
def left (ws : Nat → Int) (n q k : Nat) (c : Int) : Int := if k = q ∧ 0 < c then 0 else c + sumN (fun i => ws (cyc k n i)) (steps n q k - 1)
theorem cyc_cyc {n k i t : Nat} (hk : k < n) (h : i + 1 + t < n) : cyc (cyc k n i) n t = cyc k n (i + 1 + t) := by
  unfold cyc
  rw [show (k + 1 + i) % n + 1 + t = (k + 1 + i) % n + (1 + t) by omega, Nat.mod_add_mod]
  congr 1
  omega
theorem steps_cyc {n q k i : Nat} (hk : k < n) (hq : q < n) (hi : i + 1 < steps n q k) : steps n q (cyc k n i) = steps n q k - (i + 1) := by
  have hs := steps_pos hk hq
  by_cases h : k + 1 + i < n
  · rw [cyc_low h]
    unfold steps at *
    split at hi <;> split <;> omega
  · rw [cyc_high hk (by omega) (by omega)]
    unfold steps at *
    split at hi <;> split <;> omega
theorem cyc_ne {n q k i : Nat} (hk : k < n) (hq : q < n) (hi : i + 1 < steps n q k) : cyc k n i ≠ q := by
  intro e
  have h1 := steps_cyc hk hq hi
  rw [e] at h1
  have h2 : steps n q q = n := by unfold steps; split <;> omega
  have hs := steps_pos hk hq
  omega

theorem left_bound {ws : Nat → Int} {n q k : Nat} {c : Int} (hf : PickFit n ws k c) (hq : q < n) (hc : c ≤ ws k) (h : k ≠ q ∨ c = 0 ∨ 0 < c) : left ws n q k c ≤ sumN ws n - 1 := by
  obtain ⟨f1, f2, f3, f4, f5, f6⟩ := hf
  have hs := steps_pos f4 hq
  have hw : ∀ i, i < n → 0 ≤ ws (cyc k n i) := fun i hi => by have := f3 (cyc k n i) (Nat.mod_lt _ f1); omega
  have hall := sumN_cyc ws f4
  have hq1 := f3 q hq
  have e1 := sumN_le (f := fun i => ws (cyc k n i)) (m := steps n q k - 1 + 1) (n := n) (by omega) hw
  have e2 : sumN (fun i => ws (cyc k n i)) (steps n q k - 1 + 1) = sumN (fun i => ws (cyc k n i)) (steps n q k - 1) + ws q := by
    show _ + ws (cyc k n (steps n q k - 1)) = _
    rw [cyc_steps f4 hq]
  have e0 := sumN_nonneg (f := fun i => ws (cyc k n i)) (n := steps n q k - 1) (fun i hi => hw i (by omega))
  unfold left
  split
  · omega
  · rename_i hn
    by_cases hkq : k = q
    · have : c = 0 := by
        by_cases h0 : 0 < c
        · exact absurd ⟨hkq, h0⟩ hn
        · omega
      omega
    · -- k is the last of the round
      have hlast : steps n q k < n := by unfold steps; split <;> omega
      have e3 := sumN_le (f := fun i => ws (cyc k n i)) (m := steps n q k) (n := n - 1) (by omega) (fun i hi => hw i (by omega))
      have e4 : sumN (fun i => ws (cyc k n i)) (n - 1 + 1) = sumN (fun i => ws (cyc k n i)) (n - 1) + ws k := by
        show _ + ws (cyc k n (n - 1)) = _
        rw [cyc_high f4 (by omega) (by omega)]
        congr 2
        omega
      rw [show n - 1 + 1 = n by omega] at e4
      rw [show steps n q k - 1 + 1 = steps n q k by omega] at e2
      omega

theorem left_nonneg {ws : Nat → Int} {n q k : Nat} {c : Int} (hf : PickFit n ws k c) (hq : q < n) : 0 ≤ left ws n q k c := by
  obtain ⟨f1, f2, f3, f4, f5, f6⟩ := hf
  have e0 := sumN_nonneg (f := fun i => ws (cyc k n i)) (n := steps n q k - 1) (fun i hi => by have := f3 (cyc k n i) (Nat.mod_lt _ f1); omega)
  unfold left
  split <;> omega
/-- a turn that is not q's brings it nearer -/
theorem left_step {ws z : Nat → Int} {n q k : Nat} {c : Int} {j : Nat} {c' : Int} (hf : PickFit n ws k c) (hq : q < n) (hz : 0 < z q) (hs : NextStep z ws n k c j c') (hj : j ≠ q) : left ws n q j c' + 1 ≤ left ws n q k c := by
  obtain ⟨f1, f2, f3, f4, f5, f6⟩ := hf
  have hst := steps_pos f4 hq
  have hw : ∀ i, 0 ≤ ws (cyc k n i) := fun i => by have := f3 (cyc k n i) (Nat.mod_lt _ f1); omega
  rcases hs with ⟨h1, h2, rfl, rfl⟩ | ⟨h1, ⟨i, hi, rfl, h2, h3⟩, rfl⟩
  · unfold left
    rw [if_neg (fun h => hj h.1), if_neg (fun h => hj h.1)]
    omega
  · have hlt : i + 1 < steps n q k := by
      rcases Nat.lt_or_ge (i + 1) (steps n q k) with h | h
      · exact h
      · exfalso
        by_cases e : i = steps n q k - 1
        · subst e; exact hj (cyc_steps f4 hq)
        · have := h3 (steps n q k - 1) (by omega)
          rw [cyc_steps f4 hq] at this
          omega
    have hk0 : ¬ (k = q ∧ 0 < c) := by
      rintro ⟨rfl, h0⟩
      rcases h1 with h | h <;> omega
    unfold left
    rw [if_neg (fun h => hj h.1), if_neg hk0, steps_cyc f4 hq hlt]
    have e1 := sumN_add (fun t => ws (cyc k n t)) (i + 1) (steps n q k - (i + 1) - 1)
    rw [show i + 1 + (steps n q k - (i + 1) - 1) = steps n q k - 1 by omega] at e1
    have e2 : sumN (fun t => ws (cyc (cyc k n i) n t)) (steps n q k - (i + 1) - 1) = sumN (fun t => ws (cyc k n (i + 1 + t))) (steps n q k - (i + 1) - 1) :=
      sumN_congr fun t ht => by rw [cyc_cyc f4 (by omega)]
    have e3 : sumN (fun t => ws (cyc k n t)) (i + 1) = sumN (fun t => ws (cyc k n t)) i + ws (cyc k n i) := rfl
    have e4 := sumN_nonneg (f := fun t => ws (cyc k n t)) (n := i) (fun t _ => hw t)
    omega
end Go.Proofs.Ytkehhfgoikbciaa
