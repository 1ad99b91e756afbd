/- cmd.field.put: a number's digits into bytes. -/
import Derived.Test.YtkehhfgoikbciaaDoorBase2
import Derived.Test.YtkehhfgoikbciaaDoorProg
import Derived.Test.YtkehhfgoikbciaaDoorLeNum
import Derived.Test.YtkehhfgoikbciaaDoorPick
import Derived.Deep.OwnRows
import Derived.StillTailTactics
import Derived.Test.YtkehhfgoikbciaaDoorSplice
namespace Go.Proofs.YtkehhfgoikbciaaDoor
open Go.RowKit Go.WideShapes
set_option linter.unusedVariables false

set_option maxRecDepth 100000 in
set_option maxHeartbeats 4000000 in
theorem cmd_put (p L g n c : Nat) (bs : List Int) (x : Int) (w : World) (hL : L ≤ 8) (hp : p + L ≤ n) (hn : n ≤ 64) (hb : Blk w g (bs.map (Value.int .u8)).toArray 5) (hbs : bs.length = n) (x0 : 0 ≤ x) (x1 : x ≤ 9223372036854775807) :
    Calls Tryd.prog 104 #[.agg #[.int .i64 p, .int .i64 L], .slice (some ⟨g, 0, none⟩) n c, .int .i64 x] w fun e w' => e = .returned (.tuple #[]) ∧ Blk w' g ((splice bs p (leDig L x)).map (Value.int .u8)).toArray 5 ∧ Keep (· = g) w w' := by
  have hg := hb.lt
  have Hb := Lib.hid hb
  clear hb
  go_enter Tryd.func104, Tryd.ntmps104
  go_wp2
  have hk0 : Keep (· = g) w (w.alloc (.cells #[.int .i64 (p : Int), .int .i64 (L : Int)] 156)) := (Keep.refl _ _).alloc _
  have hf0 := Blk.new w #[.int .i64 (p : Int), .int .i64 (L : Int)] 156
  have hb0 := Hb.out.alloc (.cells #[.int .i64 (p : Int), .int .i64 (L : Int)] 156)
  have hst : Blk (w.alloc (.cells #[.int .i64 (p : Int), .int .i64 (L : Int)] 156)) g ((splice bs p ((leDig L x).take 0)).map (Value.int .u8)).toArray 5 := by simpa [splice] using hb0
  clear hb0
  have Hst := Lib.hid hst
  have Hf0 := Lib.hid hf0
  have Hk0 := Lib.hid hk0
  clear hst hf0 hk0
  go_loopw [9] (fun i wr => ∃ k : Nat, k ≤ L ∧ i = .int .i64 k ∧ Blk wr g ((splice bs p ((leDig L x).take k)).map (Value.int .u8)).toArray 5 ∧ Blk wr w.heap.size #[.int .i64 (p : Int), .int .i64 (L : Int)] 156 ∧ Keep (· = g) w wr) (fun i _ => L - (intOf i).toNat)
  case atStart => exact ⟨0, by omega, rfl, Hst.out, Hf0.out, Hk0.out⟩
  case round =>
    obtain ⟨k, hk, rfl, hb, hf, hkp⟩ := hrel
    by_cases hlt : k < L
    · have hne : w.heap.size ≠ g := by omega
      have hlen : (splice bs p ((leDig L x).take k)).length = bs.length := length_splice _ _ _ (by simp [leDig_length]; omega)
      have Hlen := Lib.hid hlen
      have hps : (p : Int) + k < n := by omega
      have hcg : ∃ v0, wr.cell? ⟨g, p + k, none⟩ = some v0 := by
        rw [hb.cell]
        exact ⟨_, Array.getElem?_eq_getElem (by simp [hlen]; omega)⟩
      obtain ⟨v0, hcg⟩ := hcg
      have Hb' := Lib.hid hb
      have Hf' := Lib.hid hf
      have Hk' := Lib.hid hkp
      clear hb hf hkp hlen
      go_wp2
      refine wp_still_tail 11 (by kernel_rfl) (by kernel_rfl) ?_
      intro W hW
      have hW0 : W.cell? ⟨w.heap.size, 0, none⟩ = some (.int .i64 p) := by subst hW; exact Hf'.out.cell 0
      have hW2 : W.cell? ⟨g, p + k, none⟩ = some v0 := by subst hW; exact hcg
      have hW3 : W.frozen? ⟨g, p + k, none⟩ = false := by subst hW; exact Hb'.out.free _
      have hb2 : Blk W g ((splice bs p ((leDig L x).take k)).map (Value.int .u8)).toArray 5 := by subst hW; exact Hb'.out
      have hf2 : Blk W w.heap.size #[.int .i64 (p : Int), .int .i64 (L : Int)] 156 := by subst hW; exact Hf'.out
      have hk2 : Keep (· = g) w W := by subst hW; exact Hk'.out.drew
      have Hb2 := Lib.hid hb2
      have Hf2 := Lib.hid hf2
      have Hk2 := Lib.hid hk2
      clear hW hb2 hf2 hk2 hcg Hb' Hf' Hk'
      simp only [List.take_succ_cons, List.take_zero, List.drop_succ_cons, List.drop_zero]
      have s1 : IntKind.i64.wrap (8 * (k : Int)) = 8 * (k : Int) := IntWalk.i64_in _ (by omega)
      have s2 : IntKind.i64.wrap ((p : Int) + (k : Int)) = (p : Int) + (k : Int) := IntWalk.i64_in _ (by omega)
      have s3 : Op.shift .shr .i64 x .i64 (8 * (k : Int)) = pure (.int .i64 (x / 2 ^ (8 * k))) := by
        rw [shift_shr_any _ _ _ _ (by omega), show (8 * (k : Int)).toNat = 8 * k by omega, show min (8 * k) IntKind.i64.bits = 8 * k from Nat.min_eq_left (by show 8 * k ≤ 64; omega)]
      have s4 : IntKind.u8.wrap (x / 2 ^ (8 * k)) = x / 2 ^ (8 * k) % 256 := by simp [IntKind.wrap, IntKind.bits, IntKind.signed]
      have s5 : ((p : Int) + (k : Int)).toNat = p + k := by omega
      have s6 : (0 : Int) ≤ (p : Int) + (k : Int) := by omega
      iterate 11 still_step
      clear s1 s2 s3 s4 s5 s6
      refine wpStill_nil ?_
      go_wp2
      go_roundw
      case rel =>
        refine ⟨k + 1, by omega, by go_num, ?_, Hf2.out.setOther (fun e => hne e.symm) _, Hk2.out.setCell (by left; rfl) _⟩
        have e : (leDig L x).getD k 0 = x / 2 ^ (8 * k) % 256 := by
          rw [leDig_getD L x k hlt, Int.pow_mul]; rfl
        refine (Hb2.out.set (p + k) _).of ?_
        rw [List.setIfInBounds_toArray, ← List.map_set, ← e, splice_set bs p (leDig L x) k (by rw [leDig_length]; exact hlt) (by omega)]
      case measure => simp [intOf]; omega
    · obtain rfl : k = L := by omega
      have e : (leDig k x).take k = leDig k x := List.take_of_length_le (by rw [leDig_length]; exact Nat.le_refl _)
      rw [e] at hb
      clear e
      go_wp2
      go_end0
      exact ⟨rfl, hb, hkp⟩
end Go.Proofs.YtkehhfgoikbciaaDoor
