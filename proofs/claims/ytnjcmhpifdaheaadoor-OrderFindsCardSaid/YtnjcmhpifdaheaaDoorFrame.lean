/- What the frames of all laws share. -/
import Derived.Test.YtnjcmhpifdaheaaDoorRd
import Derived.Test.YtnjcmhpifdaheaaDoorChecked
namespace Go.Proofs.YtnjcmhpifdaheaaDoor
open Go.ChangeShapes Go.WideShapes Go.ChangeAt Go.RowKit

theorem own : ownKnob Tryd.prog.godebug = none := by kernel_rfl
theorem laidOut : laidOutB Tryd.prog = true := by kernel_rfl

theorem row_of {k : IntKind} {sz : Nat} {H : Type} {enc : TypeId × Value → H} {W : World} {T e : TypeId} {a : Option Addr} {len cap : Nat} {d : DataW H} {p : List MemPlace}
    {ts : List TypeId} {ds : List (DataW H)} {j : Nat}
    (hT : Tryd.prog.underlying T = some (.slice e)) (he : Tryd.prog.underlying e = some (.int k)) (hc : Tryd.prog.cellsOf e = 1) (hb : Tryd.prog.bytesOf e = sz)
    (h : DataW.Trod enc Tryd.prog W 0 (fun _ => true) true T (.slice a len cap) d p)
    (hs : (DataW.weightsEach Tryd.prog ts ds).all (· ≤ reachBytes) = true) (hj : ts[j]? = some T) (hd : ds[j]? = some d) : ∃ zs, IsRow k sz W a len cap zs := by
  obtain ⟨fuel, hf⟩ := h
  rcases open_ints hT he hc hf with ⟨hcs, _⟩ | ⟨x, l, c, zs, hcs, hx1, hl, hm, hz, hx, hcell, hwz⟩
  · simp [Value.cells] at hcs
    obtain ⟨rfl, rfl, rfl⟩ := hcs
    exact ⟨[], .inl ⟨rfl, rfl, rfl, rfl⟩⟩
  · simp [Value.cells] at hcs
    obtain ⟨rfl, rfl, rfl⟩ := hcs
    simp only [Prod.mk.injEq] at hx
    obtain ⟨rfl, _⟩ := hx
    have hr := sized_slice hs hj hd hT
    rw [hb] at hr
    have hz' : zs.length = cap := by simpa using hz
    have e1 : len + (cap - len) = cap := by omega
    simp only [lits, List.length_map, List.length_take, List.length_drop, reachBytes, hz', Nat.min_eq_left hl, e1] at hr
    exact ⟨zs, .inr ⟨_, rfl, hl, hr, hm, hz', hcell, hwz⟩⟩
end Go.Proofs.YtnjcmhpifdaheaaDoor
