/- granaryref2.ReadNumber. -/
import Derived.Test.YtnapgigemdmigaaDoorNumberAt
import Derived.Test.YtnapgigemdmigaaDoorFitsRef
import Derived.Test.YtnapgigemdmigaaDoorMem
import Derived.Test.YtnapgigemdmigaaDoorPick
import Derived.IntWalk
namespace Go.Proofs.YtnapgigemdmigaaDoor
open Go.RowKit
set_option linter.unusedVariables false

set_option maxHeartbeats 1000000 in
theorem ref_readNumber_bad (a : Option Addr) (size cap : Nat) (x : Int) (w : World) (hs : size ≤ 16384) (x0 : -9223372036854775808 ≤ x) (x1 : x ≤ 9223372036854775807) (h : memFits size x 8 = false) :
    Calls Tryd.prog 34 #[.slice a size cap, .int .i64 x] w fun e w' => e = .returned (.tuple #[.int .i64 0, .int .i64 1]) ∧ w = w' := by
  have HF := Lib.hid (ref_fits size x 8 w hs x0 x1 (by omega) (by omega))
  rw [h] at HF
  clear h
  go_enter Tryd.func34, Tryd.ntmps34
  go_wp2_with fail
  refine HF.out.mono ?_
  rintro e w' ⟨rfl, rfl⟩
  go_wp2
  go_ret2
  exact ⟨rfl, rfl⟩

set_option maxHeartbeats 1000000 in
theorem ref_readNumber_ok (bb p cap : Nat) (bs : List Int) (w : World) (hs : bs.length ≤ 16384) (hcap : bs.length ≤ cap) (hp : p + 8 ≤ bs.length) (hb : ∀ x ∈ bs, 0 ≤ x ∧ x ≤ 255) (hc : ∀ i, i < bs.length → w.cell? ⟨bb, i, none⟩ = some (.int .u8 (bs.getD i 0))) :
    Calls Tryd.prog 34 #[.slice (some ⟨bb, 0, none⟩) bs.length cap, .int .i64 p] w fun e w' => e = .returned (.tuple (if numOk ((bs.drop p).take 8) then #[.int .i64 (leNum ((bs.drop p).take 8)), .int .i64 0] else #[.int .i64 0, .int .i64 1])) ∧ w = w' := by
  have HF := Lib.hid (ref_fits bs.length p 8 w hs (by omega) (by omega) (by omega) (by omega))
  rw [show memFits bs.length p 8 = true from decide_eq_true (by omega)] at HF
  have HN := Lib.hid (num_sub bb 0 p (cap - p) bs w hp hb (fun i hi => by rw [Nat.zero_add]; exact hc i hi))
  rw [Nat.zero_add] at HN
  clear hb hc
  generalize numOk ((bs.drop p).take 8) = ok at *
  generalize leNum ((bs.drop p).take 8) = v at *
  generalize bs.length = n at *
  have hw : IntKind.i64.wrap ((p : Int) + 8) = (p : Int) + 8 := IntWalk.i64_in _ (by omega)
  cases ok with
  | true =>
    simp only [if_true] at HN ⊢
    go_enter Tryd.func34, Tryd.ntmps34
    go_wp2_with fail
    refine HF.out.mono ?_
    rintro e w' ⟨rfl, rfl⟩
    go_wp2_with fail
    have e1 : (p : Int) + 8 - p = 8 := by omega
    refine HN.out.mono ?_
    rintro e w' ⟨rfl, rfl⟩
    go_wp2
    go_ret2
    exact ⟨rfl, rfl⟩
  | false =>
    simp only [Bool.false_eq_true, if_false] at HN ⊢
    go_enter Tryd.func34, Tryd.ntmps34
    go_wp2_with fail
    refine HF.out.mono ?_
    rintro e w' ⟨rfl, rfl⟩
    go_wp2_with fail
    refine HN.out.mono ?_
    rintro e w' ⟨rfl, rfl⟩
    go_wp2
    go_ret2
    exact ⟨rfl, rfl⟩
end Go.Proofs.YtnapgigemdmigaaDoor
