/- Numbers written in bytes, the lowest first: plain. -/
import Derived.WalkKit
import Derived.Lib.EndianBits
namespace Go.Proofs.YtnapgigemdmigaaDoor

def leNum : List Int → Int
  | [] => 0
  | a :: l => a + 256 * leNum l
def leDig : Nat → Int → List Int
  | 0, _ => []
  | k + 1, x => x % 256 :: leDig k (x / 256)
theorem leDig_length : ∀ (k : Nat) (x : Int), (leDig k x).length = k
  | 0, _ => rfl
  | k + 1, x => by simp [leDig, leDig_length k]
theorem leDig_byte : ∀ (k : Nat) (x : Int), ∀ y ∈ leDig k x, 0 ≤ y ∧ y ≤ 255
  | 0, _, y, h => by simp [leDig] at h
  | k + 1, x, y, h => by
    simp only [leDig, List.mem_cons] at h
    rcases h with rfl | h
    · omega
    · exact leDig_byte k _ y h
theorem leNum_bd : ∀ (l : List Int), (∀ x ∈ l, 0 ≤ x ∧ x ≤ 255) → 0 ≤ leNum l ∧ leNum l < 256 ^ l.length
  | [], _ => by simp [leNum]
  | a :: l, h => by
    have ih := leNum_bd l (fun x hx => h x (List.mem_cons_of_mem _ hx))
    have ha := h a (List.mem_cons_self ..)
    simp only [leNum, List.length_cons, Int.pow_succ]
    omega
theorem leNum_snoc : ∀ (l : List Int) (x : Int), leNum (l ++ [x]) = leNum l + 256 ^ l.length * x
  | [], x => by simp [leNum]
  | a :: l, x => by
    simp only [List.cons_append, leNum, leNum_snoc l x, List.length_cons, Int.pow_succ, Int.mul_add]
    rw [Int.mul_comm (256 ^ l.length) 256, Int.mul_assoc]
    omega
theorem leNum_dig : ∀ (k : Nat) (x : Int), 0 ≤ x → x < 256 ^ k → leNum (leDig k x) = x
  | 0, x, h0, h1 => by simp at h1; simp [leDig, leNum]; omega
  | k + 1, x, h0, h1 => by
    simp only [leDig, leNum]
    rw [Int.pow_succ] at h1
    rw [leNum_dig k (x / 256) (by omega) (by omega)]
    omega
theorem leDig_getD : ∀ (k : Nat) (x : Int) (i : Nat), i < k → (leDig k x).getD i 0 = x / 256 ^ i % 256
  | 0, _, _, h => by omega
  | k + 1, x, 0, _ => by simp [leDig]
  | k + 1, x, i + 1, h => by
    have ih := leDig_getD k (x / 256) i (by omega)
    simp only [leDig, List.getD_cons_succ]
    rw [ih, Int.pow_succ, Int.mul_comm, Int.ediv_ediv_of_nonneg (by omega)]
/-- eight bytes: digits of their number -/
theorem leDig_num : ∀ (l : List Int), (∀ x ∈ l, 0 ≤ x ∧ x ≤ 255) → leDig l.length (leNum l) = l
  | [], _ => rfl
  | a :: l, h => by
    have ih := leDig_num l (fun x hx => h x (List.mem_cons_of_mem _ hx))
    have ha := h a (List.mem_cons_self ..)
    simp only [List.length_cons, leDig, leNum]
    rw [show (a + 256 * leNum l) % 256 = a by omega, show (a + 256 * leNum l) / 256 = leNum l by omega, ih]
theorem pow256_le (k : Nat) (hk : k < 8) : (256 : Int) ^ k ≤ 72057594037927936 := by
  rcases (by omega : k = 0 ∨ k = 1 ∨ k = 2 ∨ k = 3 ∨ k = 4 ∨ k = 5 ∨ k = 6 ∨ k = 7) with rfl | rfl | rfl | rfl | rfl | rfl | rfl | rfl <;> decide
theorem pow256_pos (k : Nat) : (0 : Int) < 256 ^ k := Int.pow_pos (by omega)
/-- one byte more: x |= uint64(v) << (8 * k) -/
theorem or_shift (k : Nat) (X v : Int) (hk : k < 8) (x0 : 0 ≤ X) (x1 : X < 256 ^ k) (v0 : 0 ≤ v) (v1 : v ≤ 255) :
    bits .or .u64 X (IntKind.u64.wrap (v * 2 ^ (8 * k))) = X + 256 ^ k * v := by
  have e : (2 : Int) ^ (8 * k) = 256 ^ k := by rw [Int.pow_mul]; rfl
  have hp := pow256_le k hk
  have hp0 := pow256_pos k
  have hm : v * 256 ^ k ≤ 255 * 256 ^ k := Int.mul_le_mul_of_nonneg_right v1 (by omega)
  have hm0 : 0 ≤ v * 256 ^ k := Int.mul_nonneg v0 (by omega)
  rw [e, u64_wrap_id _ hm0 (by omega), bits_join_low .u64 64 (by decide) (fun n h0 h1 => wraps_u64 n h0 h1) (8 * k) X (v * 256 ^ k) x0 (by rw [e]; exact x1) (by have : (2 : Int) ^ 64 = 18446744073709551616 := rfl; omega) hm0 (by rw [e]; exact Int.mul_emod_left _ _) (by have : (2 : Int) ^ 64 = 18446744073709551616 := rfl; omega)]
  rw [Int.mul_comm]
end Go.Proofs.YtnapgigemdmigaaDoor
