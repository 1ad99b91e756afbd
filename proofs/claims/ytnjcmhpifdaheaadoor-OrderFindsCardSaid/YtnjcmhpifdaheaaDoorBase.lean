/- Small laws on blocks of memory that all my walks share: a block's cells, what a store, a new block and a draw do to them, and 'Keep': what stands outside some blocks is kept. -/
import Derived.WalkKit
import Derived.BigQuiet
import Derived.Deep.QuietTactic
namespace Go.Proofs.YtnjcmhpifdaheaaDoor
open Go.RowKit

/-- Block b holds just these cells, none frozen. -/
def Blk (w : World) (b : Nat) (c : Array Value) (e : TypeId) : Prop := w.heap[b]? = some (.cells c e (0, 0))

theorem Blk.lt {w : World} {b : Nat} {c : Array Value} {e : TypeId} (h : Blk w b c e) : b < w.heap.size := by
  unfold Blk at h
  exact (Array.getElem?_eq_some_iff.1 h).1
theorem Blk.cell {w : World} {b : Nat} {c : Array Value} {e : TypeId} (h : Blk w b c e) (i : Nat) : w.cell? ⟨b, i, none⟩ = c[i]? := by
  unfold Blk at h
  simp [World.cell?, h]
theorem Blk.free {w : World} {b : Nat} {c : Array Value} {e : TypeId} (h : Blk w b c e) (i : Nat) : w.frozen? ⟨b, i, none⟩ = false := by
  unfold Blk at h
  simp [World.frozen?, h]
theorem Blk.set {w : World} {b : Nat} {c : Array Value} {e : TypeId} (h : Blk w b c e) (i : Nat) (v : Value) : Blk (w.setCell ⟨b, i, none⟩ v) b (c.setIfInBounds i v) e := by
  have hb := h.lt
  unfold Blk at h ⊢
  have hg := (Array.getElem?_eq_some_iff.1 h).2
  simp [World.setCell, Array.getElem?_modify, h]
theorem Blk.setOther {w : World} {b : Nat} {c : Array Value} {e : TypeId} (h : Blk w b c e) {a : Addr} (ha : a.block ≠ b) (v : Value) : Blk (w.setCell a v) b c e := by
  unfold Blk at h ⊢
  simp [World.setCell, Array.getElem?_modify, h, ha]
theorem Blk.alloc {w : World} {b : Nat} {c : Array Value} {e : TypeId} (h : Blk w b c e) (o : Obj) : Blk (w.alloc o) b c e := by
  have hb := h.lt
  unfold Blk at h ⊢
  simp only [World.alloc, Array.getElem?_push]
  rw [if_neg (by omega)]; exact h
theorem Blk.of {w : World} {b : Nat} {c c' : Array Value} {e : TypeId} (h : Blk w b c e) (hc : c = c') : Blk w b c' e := hc ▸ h
theorem Blk.drew {w : World} {b : Nat} {c : Array Value} {e : TypeId} (h : Blk w b c e) : Blk w.drew b c e := h
theorem Blk.drewN {w : World} {b : Nat} {c : Array Value} {e : TypeId} (h : Blk w b c e) (n : Nat) : Blk (w.drewN n) b c e := h
theorem Blk.new (w : World) (c : Array Value) (e : TypeId) : Blk (w.alloc (.cells c e (0, 0))) w.heap.size c e := by
  unfold Blk
  show (w.heap.push _)[w.heap.size]? = _
  simp

/-- All but the blocks in S is as it was; blocks may have come. -/
structure Keep (S : Nat → Prop) (w w' : World) : Prop where
  os : w'.os = w.os
  tape : w'.tape = w.tape
  output : w'.output = w.output
  size : w.heap.size ≤ w'.heap.size
  block : ∀ k, k < w.heap.size → ¬ S k → w'.heap[k]? = w.heap[k]?

theorem Keep.refl (S : Nat → Prop) (w : World) : Keep S w w := ⟨rfl, rfl, rfl, Nat.le_refl _, fun _ _ _ => rfl⟩
theorem Keep.trans {S : Nat → Prop} {a b c : World} (h : Keep S a b) (k : Keep S b c) : Keep S a c :=
  ⟨k.os.trans h.os, k.tape.trans h.tape, k.output.trans h.output, Nat.le_trans h.size k.size, fun i hi hs => (k.block i (Nat.lt_of_lt_of_le hi h.size) hs).trans (h.block i hi hs)⟩
theorem Keep.mono {S S' : Nat → Prop} {a b : World} (h : Keep S a b) (hs : ∀ k, k < a.heap.size → S k → S' k) : Keep S' a b :=
  ⟨h.os, h.tape, h.output, h.size, fun i hi hn => h.block i hi (fun q => hn (hs i hi q))⟩
theorem Keep.drew {S : Nat → Prop} {a w : World} (h : Keep S a w) : Keep S a w.drew := ⟨h.os, h.tape, h.output, h.size, h.block⟩
theorem Keep.drewN {S : Nat → Prop} {a w : World} (h : Keep S a w) (n : Nat) : Keep S a (w.drewN n) := ⟨h.os, h.tape, h.output, h.size, h.block⟩
theorem Keep.alloc {S : Nat → Prop} {a w : World} (h : Keep S a w) (o : Obj) : Keep S a (w.alloc o) :=
  ⟨h.os, h.tape, h.output, by have := h.size; show _ ≤ (w.heap.push o).size; simp; omega, fun k hk hs => by
    rw [Below.heap_alloc _ _ _ (Nat.lt_of_lt_of_le hk h.size)]; exact h.block k hk hs⟩
theorem Keep.setCell {S : Nat → Prop} {a w : World} (h : Keep S a w) {p : Addr} (hp : S p.block ∨ a.heap.size ≤ p.block) (v : Value) : Keep S a (w.setCell p v) :=
  ⟨h.os, h.tape, h.output, by have := h.size; simp [World.setCell]; omega, fun k hk hs => by
    rw [Below.heap_setCell _ _ _ _ (fun e => by subst e; exact hp.elim hs (by omega))]; exact h.block k hk hs⟩
theorem Keep.blk {S : Nat → Prop} {a w : World} (h : Keep S a w) {b : Nat} {c : Array Value} {e : TypeId} (hb : Blk a b c e) (hs : ¬ S b) : Blk w b c e := by
  unfold Blk
  rw [h.block b hb.lt hs]; exact hb
theorem Keep.cell {S : Nat → Prop} {a w : World} (h : Keep S a w) {p : Addr} (hp : p.block < a.heap.size) (hs : ¬ S p.block) : w.cell? p = a.cell? p :=
  World.cell?_of_block (h.block p.block hp hs)
theorem Keep.frozen {S : Nat → Prop} {a w : World} (h : Keep S a w) {p : Addr} (hp : p.block < a.heap.size) (hs : ¬ S p.block) : w.frozen? p = a.frozen? p :=
  World.frozen?_of_block (h.block p.block hp hs)
/-- what is kept of all that was: the kit's 'Below' -/
theorem Keep.below {S : Nat → Prop} {a w : World} (h : Keep S a w) (B : Nat) (hB : B ≤ a.heap.size) (hs : ∀ k, S k → B ≤ k) : Below B a w :=
  ⟨h.os, h.tape, h.output, h.size, fun k hk => h.block k (Nat.lt_of_lt_of_le hk hB) (fun q => absurd (hs k q) (by omega))⟩
theorem Keep.ofBelow {S : Nat → Prop} {a w : World} {B : Nat} (h : Below B a w) (hs : ∀ k, k < a.heap.size → B ≤ k → S k) : Keep S a w :=
  ⟨h.os, h.tape, h.output, h.size, fun k hk hn => h.block k (Decidable.byContradiction fun q => hn (hs k hk (by omega)))⟩
end Go.Proofs.YtnjcmhpifdaheaaDoor
