/- granaryref2.Eight. -/
import Derived.Test.YtnapgigemdmigaaDoorLeNum
import Derived.Test.YtnapgigemdmigaaDoorBase2
import Derived.Deep.OwnRows
import Derived.IntWalk
import Derived.Test.YtnapgigemdmigaaDoorProg
namespace Go.Proofs.YtnapgigemdmigaaDoor
open Go.RowKit
set_option linter.unusedVariables false

theorem leDig_snoc : ∀ (j : Nat) (x : Int), leDig (j + 1) x = leDig j x ++ [x / 256 ^ j % 256]
  | 0, x => by simp [leDig]
  | j + 1, x => by
    have ih := leDig_snoc j (x / 256)
    rw [leDig, ih]
    simp only [leDig, List.cons_append, Int.pow_succ]
    rw [Int.mul_comm (256 ^ j) 256, Int.ediv_ediv_of_nonneg (by omega)]
theorem div_next (x : Int) (j : Nat) : x / 256 ^ j / 256 = x / 256 ^ (j + 1) := by
  rw [Int.pow_succ, Int.ediv_ediv_of_nonneg (Int.le_of_lt (pow256_pos j))]
def EightInv (w0 : World) (x : Int) (j : Nat) (v : Value) (wr : World) : Prop :=
  wr.ownsRow w0.heap.size 5 1 v j ((leDig j x).map (Value.int .u8)) ∧ Below w0.heap.size w0 wr

set_option maxRecDepth 100000 in
set_option maxHeartbeats 4000000 in
theorem ref_eight (x : Int) (w : World) (x0 : 0 ≤ x) (x1 : x ≤ 9223372036854775807) :
    Calls Tryd.prog 36 #[.int .i64 x] w fun e w' => ∃ v, e = .returned v ∧ EightInv w x 8 v w' := by
  obtain ⟨i0, hi, hz0', hz1, hz2⟩ := info_parts (P := Tryd.prog) (e := 5) (z := .int .u8 0) (size := 1) (bytes := 1) (by kernel_rfl)
  have Hi := Lib.hid hi
  have Hz0 := Lib.hid hz0'
  have Hz1 := Lib.hid hz1
  have Hz2 := Lib.hid hz2
  clear hi hz0' hz1 hz2
  go_enter Tryd.func36, Tryd.ntmps36
  go_wp2_with fail
  go_loopw [0, 3, 4] (fun y v i wr => ∃ j : Nat, j ≤ 8 ∧ i = .int .i64 j ∧ y = .int .i64 (x / 256 ^ j) ∧ EightInv w x j v wr) (fun _ _ i _ => 8 - (intOf i).toNat)
  case atStart => exact ⟨0, by omega, rfl, by simp, World.ownsRow_nil _ _ _ _, Below.refl _ _⟩
  case round =>
    obtain ⟨j, hj, rfl, rfl, hI⟩ := hrel
    have HI := Lib.hid hI
    clear hI
    have hX0 : 0 ≤ x / 256 ^ j := Int.ediv_nonneg x0 (Int.le_of_lt (pow256_pos j))
    have hX1 : x / 256 ^ j ≤ 9223372036854775807 := by
      have := Int.ediv_le_self (a := x) (256 ^ j) x0
      omega
    have HD := Lib.hid (div_next x j)
    have HS := Lib.hid (leDig_snoc j x)
    generalize x / 256 ^ j = X at *
    by_cases hlt : j < 8
    · have hjc : decide ((j : Int) < 8) = true := decide_eq_true (by omega)
      go_wp2_with (at_builtin; refine wpList_append_own _ rfl _ _ 30 rfl w.heap.size 5 i0 (.int .u8 0) 1 1 Tryd.underlying30 Hi.out Hz0.out Hz1.out Hz2.out rfl (by decide) _ _ _ rfl (HI.out.1.alloc _) ⟨wr.heap.size, 0, none⟩ 1 1 [.int .u8 (X % 256)] rfl rfl ?c1 ?c2 ?c3 ?c4 ?c5 ?_)
      case c1 => exact one_news _ _ _ _ rfl
      case c2 => intro u hu; simp at hu; subst hu; rfl
      case c3 => unfold maxLen; omega
      case c4 => omega
      case c5 => have := HI.out.2.size; simp; omega
      intro v' w6 hown' hgrow _
      have hI2 : EightInv w x (j + 1) v' w6 := ⟨by
        rw [HS.out, List.map_append]
        exact hown', (HI.out.2.alloc HI.out.2.size _).grown hgrow (by have := HI.out.2.size; simp; omega) (fun k' hk' => by
          have h2 := HI.out.1.2
          rcases h2 with ⟨e, _⟩ | ⟨g', _, _, e, hg', _⟩
          · rw [e] at hk'; cases hk'
          · rw [e] at hk'; cases hk'; exact hg')⟩
      have HI2 := Lib.hid hI2
      have e1 : Int.tdiv X 256 = X / 256 := Int.tdiv_eq_ediv_of_nonneg (by omega)
      have e2 : IntKind.i64.wrap (X / 256) = X / 256 := IntWalk.i64_in _ (by omega)
      clear hown' hgrow hI2 HI HS
      go_wp2
      go_roundw
      case rel => exact ⟨j + 1, by omega, by go_num, by rw [← HD.out], HI2.out⟩
      case measure => simp [intOf]; omega
    · have hj8 : j = 8 := by omega
      subst hj8
      clear HS HD
      go_wp2
      go_ret
      exact ⟨_, rfl, HI.out⟩
end Go.Proofs.YtnapgigemdmigaaDoor
