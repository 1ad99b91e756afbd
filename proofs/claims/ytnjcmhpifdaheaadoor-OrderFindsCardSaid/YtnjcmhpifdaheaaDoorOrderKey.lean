/- What a map reads of a search's state: its key; and of a block's number. -/
import Derived.Test.YtnjcmhpifdaheaaDoorOrderLaw
import Derived.Test.YtnjcmhpifdaheaaDoorProg
import Derived.Test.YtnjcmhpifdaheaaDoorBase2
import Derived.Maps.OwnOps
import Derived.Maps.Views
import Derived.DeepKeys4
namespace Go.Proofs.YtnjcmhpifdaheaaDoor
open Go.RowKit
set_option linter.unusedVariables false

def stCells (s : OSt) : Array Value := (Value.int .u16 s.done :: s.last.map fun x : Nat => Value.int .i8 x).toArray
/-- a state as a value -/
def stV (s : OSt) : Value := .agg (stCells s)
/-- a state that fits its cells -/
structure StOk (s : OSt) : Prop where
  done : s.done < 65536
  len : s.last.length = 10
  last : ∀ x ∈ s.last, x ≤ 10

theorem st_wf16 {n : Nat} (h : n < 65536) : (Lit.int .u16 (n : Int)).wf = true := by
  simp [Lit.wf, IntKind.min, IntKind.max, IntKind.signed, IntKind.bits]
  omega
theorem st_wf8 {n : Nat} (h : n ≤ 10) : (Lit.int .i8 (n : Int)).wf = true := by
  simp [Lit.wf, IntKind.min, IntKind.max, IntKind.signed, IntKind.bits]
  omega

theorem dead_laid : laidOutB Tryd.prog = true := by kernel_rfl
theorem dead_wide : (match Tryd.prog.underlying 52 with | some (.array _ _) | some (.struct _) => true | _ => false) = true := by kernel_rfl
theorem dead_law : WideMaps.KeyLaw Tryd.prog 52 := deep_law_laid dead_laid (m := 3) (by omega) (of_decide_eq_true (by kernel_rfl)) (by kernel_rfl) dead_wide
theorem dead_keyed : Maps.Keyed Tryd.prog 52 := .of_law dead_law
theorem now_keyed : Maps.Keyed Tryd.prog 3 := Maps.int_keyed Tryd.underlying3

theorem state_u16 (n : Nat) (h : n < 65536) (d : Nat) : Tryd.prog.keyLits (d + 1) 46 [.int .u16 n] = some [.int .u16 n] := by
  simp [Program.keyLits, Tryd.underlying46, st_wf16 h]
theorem state_i8 (n : Nat) (h : n ≤ 10) (d : Nat) : Tryd.prog.keyLits (d + 1) 49 [.int .i8 n] = some [.int .i8 n] := by
  simp [Program.keyLits, Tryd.underlying49, st_wf8 h]
theorem state_arr (l : List Nat) (hl : l.length = 10) (h : ∀ x ∈ l, x ≤ 10) (d : Nat) : ∃ L, Tryd.prog.keyLits (d + 2) 50 (l.map fun x : Nat => Value.int .i8 x) = some L := by
  have e0 : Tryd.prog.cellsOf 50 = 10 := by kernel_rfl
  have e1 : Tryd.prog.cellsOf 49 = 1 := by kernel_rfl
  match l, hl, h with
  | [a0, a1, a2, a3, a4, a5, a6, a7, a8, a9], _, h =>
    have h0 := state_i8 a0 (h _ (by simp)) d
    have h1 := state_i8 a1 (h _ (by simp)) d
    have h2 := state_i8 a2 (h _ (by simp)) d
    have h3 := state_i8 a3 (h _ (by simp)) d
    have h4 := state_i8 a4 (h _ (by simp)) d
    have h5 := state_i8 a5 (h _ (by simp)) d
    have h6 := state_i8 a6 (h _ (by simp)) d
    have h7 := state_i8 a7 (h _ (by simp)) d
    have h8 := state_i8 a8 (h _ (by simp)) d
    have h9 := state_i8 a9 (h _ (by simp)) d
    refine ⟨[.int .i8 a0, .int .i8 a1, .int .i8 a2, .int .i8 a3, .int .i8 a4, .int .i8 a5, .int .i8 a6, .int .i8 a7, .int .i8 a8, .int .i8 a9], ?_⟩
    rw [show d + 2 = (d + 1) + 1 from rfl]
    unfold Program.keyLits
    simp only [Tryd.underlying50, e0, e1]
    simp only [List.map_cons, List.map_nil, List.length_cons, List.length_nil, if_true, show List.range 10 = [0, 1, 2, 3, 4, 5, 6, 7, 8, 9] from rfl, List.mapM_cons, List.mapM_nil, Nat.mul_one, List.drop_succ_cons, List.drop_zero, List.take_succ_cons, List.take_zero, h0, h1, h2, h3, h4, h5, h6, h7, h8, h9]
    rfl
theorem keyOf_st {s : OSt} (h : StOk s) : ∃ kl, keyOf Tryd.prog 52 (stV s) = some kl := by
  have hk : Tryd.prog.keyType 52 = true := by kernel_rfl
  have e0 : Tryd.prog.cellsOf 52 = 11 := by kernel_rfl
  have hlen : (stCells s).size = 11 := by simp [stCells, h.len]
  have hf : (stV s).formed Tryd.prog 52 = true := by
    simp [stV, Value.formed, Tryd.underlying52, hlen, e0]
  obtain ⟨n, ht⟩ : ∃ n, Tryd.prog.types.size + 1 = n + 4 := ⟨Tryd.prog.types.size - 3, by
    have : 3 ≤ Tryd.prog.types.size := of_decide_eq_true (by kernel_rfl)
    omega⟩
  obtain ⟨L, hL⟩ := state_arr s.last h.len h.last (n + 1)
  have hu := state_u16 s.done h.done (n + 2)
  have e1 : Tryd.prog.cellsOf 50 = 10 := by kernel_rfl
  have e2 : Tryd.prog.cellsOf 46 = 1 := by kernel_rfl
  unfold keyOf
  simp only [Tryd.underlying52, hk, hf, Bool.and_self, if_true]
  rw [ht]
  unfold Program.keyLits
  simp only [Tryd.underlying52, e0]
  have hc : (stV s).cells.toList = Value.int .u16 s.done :: s.last.map fun x : Nat => Value.int .i8 x := by simp [stV, Value.cells, stCells]
  have hl : (s.last.map fun x : Nat => Value.int .i8 x).take 10 = s.last.map fun x : Nat => Value.int .i8 x := List.take_of_length_le (by simp [h.len])
  rw [hc]
  simp [h.len, e1, e2, hu, hL, hl]

noncomputable def skey (s : OSt) : Lit := (keyOf Tryd.prog 52 (stV s)).getD (.bool true)
theorem skey_of {s : OSt} (h : StOk s) : keyOf Tryd.prog 52 (stV s) = some (skey s) := by
  obtain ⟨kl, hk⟩ := keyOf_st h
  unfold skey
  rw [hk]; rfl
theorem map_i8_inj : ∀ (l l' : List Nat), (l.map fun x : Nat => Value.int .i8 x) = (l'.map fun x : Nat => Value.int .i8 x) → l = l'
  | [], [], _ => rfl
  | [], _ :: _, h => by simp at h
  | _ :: _, [], h => by simp at h
  | x :: l, y :: l', h => by
    simp only [List.map_cons, List.cons.injEq, Value.int.injEq, true_and] at h
    have := map_i8_inj l l' h.2
    rw [this, Int.ofNat_inj.1 h.1]
theorem stV_inj {s s' : OSt} (e : stV s = stV s') : s = s' := by
  simp [stV, stCells] at e
  obtain ⟨e1, e2⟩ := e
  obtain ⟨d, l⟩ := s
  obtain ⟨d', l'⟩ := s'
  simp at e1 e2 ⊢
  refine ⟨Int.ofNat_inj.1 e1, ?_⟩
  exact map_i8_inj l l' (by simpa using e2)
theorem skey_inj {s s' : OSt} (h : StOk s) (h' : StOk s') (e : skey s = skey s') : s = s' :=
  stV_inj (dead_keyed.inj (skey_of h) (by rw [e]; exact skey_of h'))
theorem skey_isKey {s : OSt} (h : StOk s) : WideAt.IsKeyLit (skey s) := dead_keyed.key (skey_of h)
end Go.Proofs.YtnjcmhpifdaheaaDoor
