/- Parts of the proof of TopCommandsProof: TopList CmdA Cmd CmdP CmdW CmdE CmdG CmdD CmdLaw. -/
import Derived.Laws.OwnMore
import Derived.Test.YtdkpbobglogmoaaGreatProg
import Derived.Deep.OwnRows
import Derived.StillTailTactics
import Derived.Laws.CopyOwn
import Derived.Test.YtdkpbobglogmoaaGreatTk14
import Derived.Test.YtdkpbobglogmoaaGreatTk25
import Derived.Test.YtdkpbobglogmoaaGreatTk26
import Derived.Test.YtdkpbobglogmoaaGreatTk27
set_option linter.unusedVariables false
set_option linter.unusedSimpArgs false
set_option maxRecDepth 100000
set_option maxHeartbeats 32000000
namespace Go.Proofs.YtdkpbobglogmoaaGreat
open Go.RowKit Go.WideShapes
def SegRd (w : World) (a : Option Addr) (segs : List (Int × Int)) : Prop :=
  segs.length = 0 ∨ ∃ b off, a = some ⟨b, off, none⟩ ∧ b < w.heap.size ∧ ∀ i, i < segs.length → w.cell? ⟨b, off + i * 2, none⟩ = some (.int .i64 (segs.getD i (0, 0)).1) ∧ w.cell? ⟨b, off + i * 2 + 1, none⟩ = some (.int .i64 (segs.getD i (0, 0)).2)
theorem segCells_at (segs : List (Int × Int)) (i : Nat) (h : i < segs.length) : (segCells segs)[i * 2]? = some (.int .i64 (segs.getD i (0, 0)).1) ∧ (segCells segs)[i * 2 + 1]? = some (.int .i64 (segs.getD i (0, 0)).2) := by
  induction segs generalizing i with
  | nil => simp at h
  | cons s t ih =>
    have e : segCells (s :: t) = .int .i64 s.1 :: .int .i64 s.2 :: segCells t := rfl
    rw [e]
    cases i with
    | zero => simp [List.getD]
    | succ i =>
      have := ih i (by simpa using h)
      rw [show (i + 1) * 2 = i * 2 + 1 + 1 by omega]
      simpa using this
theorem segRd_own {w : World} {base g n cap : Nat} {segs : List (Int × Int)} (h : w.ownsRow base 42 2 (.slice (some ⟨g, 0, none⟩) n cap) n (segCells segs)) (hn : segs.length = n) : SegRd w (some ⟨g, 0, none⟩) segs := by
  refine .inr ⟨g, 0, rfl, (h.lt g rfl).2, fun i hi => ?_⟩
  have := segCells_at segs i hi
  rw [Nat.zero_add, h.cellAt (i * 2) (by omega), h.cellAt (i * 2 + 1) (by omega)]
  exact this
theorem walk_any (b mb : Nat) (bs : List Int) (first second long : Int) (w : World) (hm : MemAt w b mb bs) (f0 : -9223372036854775808 ≤ first) (f1 : first ≤ 9223372036854775807) (s0 : -9223372036854775808 ≤ second) (s1 : second ≤ 9223372036854775807) (l0 : -9223372036854775808 ≤ long) (l1 : long ≤ 9223372036854775807) :
    Calls Tryz.prog 9 #[.pointer (some ⟨b, 0, none⟩), .int .i64 first, .int .i64 second, .int .i64 long] w (WalkEnd (walkRes bs first second long) w) := by
  by_cases h : long < 1 ∨ 2048 < long ∨ first % 4 ≠ 0 ∨ first < 0
  · exact walk_early b mb bs first second long w f0 f1 l0 l1 h
  · exact walk_late b mb bs first second long w hm f1 s0 s1 (by omega) (by omega) (by omega) (by omega)
theorem segOk_long {L : Nat} {segs : List (Int × Int)} (h : ∀ s ∈ segs, segOk L s) : (segs.length : Int) ≤ segSum segs := by
  induction segs with
  | nil => simp [segSum]
  | cons s t ih =>
    have := ih (fun x hx => h x (List.mem_cons_of_mem _ hx))
    have h1 := (h s (List.mem_cons_self ..)).2.1
    have : segSum (s :: t) = s.2 + segSum t := by simp [segSum]
    rw [this]; simp only [List.length_cons]; omega
def builtSegs (pages : List Int) (offset long : Int) : List (Int × Int) :=
  match pages with
  | [] => []
  | x :: t => (x + offset, min (64 - offset) long) :: segsOf t (long - min (64 - offset) long)
theorem segsOf_length (t : List Int) : ∀ left, (segsOf t left).length = t.length := by
  induction t with
  | nil => intro _; rfl
  | cons x t ih => intro left; simp [segsOf, ih]
theorem segsOf_fst (t : List Int) : ∀ left, (segsOf t left).map (·.1) = t := by
  induction t with
  | nil => intro _; rfl
  | cons x t ih => intro left; simp [segsOf, ih]
theorem builtSegs_length (pages : List Int) (offset long : Int) : (builtSegs pages offset long).length = pages.length := by
  cases pages with
  | nil => rfl
  | cons x t => simp [builtSegs, segsOf_length]
theorem builtSegs_at (pages : List Int) (offset long : Int) (i : Nat) (h : i < pages.length) : ((builtSegs pages offset long).getD i (0, 0)).1 = pages.getD i 0 + if i = 0 then offset else 0 := by
  cases pages with
  | nil => simp at h
  | cons x t =>
    cases i with
    | zero => simp [builtSegs]
    | succ i =>
      have hi : i < t.length := by simpa using h
      have hl : i < (segsOf t (long - min (64 - offset) long)).length := by rw [segsOf_length]; exact hi
      have e := congrArg (fun l => l[i]?) (segsOf_fst t (long - min (64 - offset) long))
      simp only [List.getElem?_map, List.getElem?_eq_getElem hl, List.getElem?_eq_getElem hi, Option.map_some, Option.some.injEq] at e
      simp [builtSegs, List.getD, hl, hi, e]
theorem build_uv (bs : List Int) (at_ : Int) (pages : List Int) (offset long : Int) (h : (buildRes bs at_ pages offset long).e = 0) :
    (buildRes bs at_ pages offset long).u = pages.getD 0 0 + offset ∧ ((buildRes bs at_ pages offset long).v = 0 ∨ (buildRes bs at_ pages offset long).v = pages.getD 1 0 ∨ (buildRes bs at_ pages offset long).v = at_) ∧ ∀ x ∈ pages, pageOk x = true := by
  unfold buildRes at h ⊢
  split at h; · cases h
  split at h; · cases h
  split at h; · cases h
  split at h; · cases h
  split at h; · cases h
  split at h; · cases h
  next h1 h2 h3 h4 h5 h6 =>
  rw [if_neg h1, if_neg h2, if_neg h3, if_neg h4, if_neg h5, if_neg h6]
  refine ⟨rfl, ?_, by simpa using h3⟩
  show (if pages.length = 1 then (0 : Int) else if pages.length = 2 then pages.getD 1 0 else at_) = 0 ∨ _ ∨ _
  split
  · exact .inl rfl
  · split
    · exact .inr (.inl rfl)
    · exact .inr (.inr rfl)
end Go.Proofs.YtdkpbobglogmoaaGreat
namespace Go.Proofs.YtdkpbobglogmoaaGreat
open Go.RowKit Go.WideShapes
def commandCells (b : Nat) : Array Value := #[.int .i64 0, .int .i64 1, .pointer (some ⟨b, 0, none⟩), .int .i64 2, .int .i64 2, .pointer (some ⟨b, 1, none⟩), .int .i64 8, .int .i64 8, .pointer (some ⟨b, 2, none⟩),
  .int .i64 16, .int .i64 4, .pointer (some ⟨b, 3, none⟩), .int .i64 24, .int .i64 8, .pointer (some ⟨b, 4, none⟩), .int .i64 32, .int .i64 8, .pointer (some ⟨b, 5, none⟩)]
def zeroPairs6 : Array Value := #[.int .i64 0, .int .i64 0, .pointer none, .int .i64 0, .int .i64 0, .pointer none, .int .i64 0, .int .i64 0, .pointer none, .int .i64 0, .int .i64 0, .pointer none, .int .i64 0, .int .i64 0, .pointer none, .int .i64 0, .int .i64 0, .pointer none]
theorem cmd_command (b : Nat) (w : World) (hlt : b < w.heap.size) :
    Calls Tryz.prog 17 #[.pointer (some ⟨b, 0, none⟩)] w fun e w' => e = .returned (.agg (commandCells b)) ∧ Below w.heap.size w w' := by
  go_enter Tryz.func17, Tryz.ntmps17
  go_wp2
  refine wp_still_tail 31 (by kernel_rfl) (by kernel_rfl) ?_
  intro W hW
  have hB : Below w.heap.size w W := by subst hW; exact ((Below.refl _ _).alloc (Nat.le_refl _) _).drew
  have hc : Blk W w.heap.size zeroPairs6 66 := by subst hW; exact (Blk.new _ _ _).drew
  clear hW
  simp only [List.take_succ_cons, List.take_zero, List.drop_succ_cons, List.drop_zero]
  iterate 31 still_step
  refine wpStill_nil ?_
  refine wpList_store_row rfl 66 (.tmp 2) (.tmp 33) rfl w.heap.size (commandCells b) rfl rfl 66 zeroPairs6 hc (by kernel_rfl) rfl (by simp [commandCells, Value.oneCell']) ?_
  have hB2 : Below w.heap.size w (W.setRow w.heap.size (commandCells b)) := below_setRow hB (Nat.le_refl _) _
  have hc2 := setRow_heap W w.heap.size zeroPairs6 (commandCells b) 66 (0, 0) hc
  generalize W.setRow w.heap.size (commandCells b) = W2 at hB2 hc2 ⊢
  have HB2 := Lib.hid hB2
  have Hc2 := Lib.hid hc2
  clear hB hc hB2 hc2
  go_wp2
  exact bodyPost_ret (v := .agg (commandCells b)) (results_cell_row (p := 2) (ty := 66) rfl _ _ w.heap.size 66 (commandCells b) (0, 0) _ rfl Hc2.out Tryz.underlying66 rfl (by kernel_rfl)) rfl ⟨rfl, HB2.out⟩
end Go.Proofs.YtdkpbobglogmoaaGreat
namespace Go.Proofs.YtdkpbobglogmoaaGreat
open Go.RowKit Go.WideShapes
def cmdErr (k : Int) : Value := .iface 54 (.int .i64 k)
def limOf (L : Nat) : Int := if L = 8 then 4611686018427387904 else 256 ^ L - 1
def fits (L : Nat) (x : Int) : Bool := decide (0 ≤ x ∧ x ≤ limOf L)
theorem cmd_within (p L : Nat) (x : Int) (w : World) (hL : L = 1 ∨ L = 2 ∨ L = 4 ∨ L = 8) (x0 : -9223372036854775808 ≤ x) (x1 : x ≤ 9223372036854775807) :
    Calls Tryz.prog 35 #[.agg #[.int .i64 p, .int .i64 L], .int .i64 x] w fun e w' => e = .returned (.bool (fits L x)) ∧ Below w.heap.size w w' := by
  by_cases h0 : 0 ≤ x
  · rcases hL with rfl | rfl | rfl | rfl
    · go_enter Tryz.func35, Tryz.ntmps35
      go_wp2
      go_ret
      refine ⟨ret_bool ?_, (Below.refl _ _).alloc (Nat.le_refl _) _⟩
      unfold fits limOf
      rw [Bool.eq_iff_iff]
      simp
      omega
    · go_enter Tryz.func35, Tryz.ntmps35
      go_wp2
      go_ret
      refine ⟨ret_bool ?_, (Below.refl _ _).alloc (Nat.le_refl _) _⟩
      unfold fits limOf
      rw [Bool.eq_iff_iff]
      simp
      omega
    · go_enter Tryz.func35, Tryz.ntmps35
      go_wp2
      go_ret
      refine ⟨ret_bool ?_, (Below.refl _ _).alloc (Nat.le_refl _) _⟩
      unfold fits limOf
      rw [Bool.eq_iff_iff]
      simp
      omega
    · go_enter Tryz.func35, Tryz.ntmps35
      go_wp2
      all_goals (go_ret; refine ⟨ret_bool ?_, (Below.refl _ _).alloc (Nat.le_refl _) _⟩)
      all_goals (unfold fits limOf; simp; omega)
  · go_enter Tryz.func35, Tryz.ntmps35
    go_wp2
    go_ret
    refine ⟨ret_bool ?_, (Below.refl _ _).alloc (Nat.le_refl _) _⟩
    unfold fits; simp; omega
end Go.Proofs.YtdkpbobglogmoaaGreat
namespace Go.Proofs.YtdkpbobglogmoaaGreat
open Go.RowKit Go.WideShapes
theorem cmd_put (p L g n c : Nat) (bs : List Int) (x : Int) (w : World) (hL : L ≤ 8) (hp : p + L ≤ n) (hn : n ≤ 64) (hb : Blk w g (bs.map (Value.int .u8)).toArray 5) (hbs : bs.length = n) (x0 : 0 ≤ x) (x1 : x ≤ 9223372036854775807) :
    Calls Tryz.prog 36 #[.agg #[.int .i64 p, .int .i64 L], .slice (some ⟨g, 0, none⟩) n c, .int .i64 x] w fun e w' => e = .returned (.tuple #[]) ∧ Blk w' g ((splice bs p (leDig L x)).map (Value.int .u8)).toArray 5 ∧ Keep (· = g) w w' := by
  have hg := hb.lt
  have Hb := Lib.hid hb
  clear hb
  go_enter Tryz.func36, Tryz.ntmps36
  go_wp2
  have hk0 : Keep (· = g) w (w.alloc (.cells #[.int .i64 (p : Int), .int .i64 (L : Int)] 62)) := (Keep.refl _ _).alloc _
  have hf0 := Blk.new w #[.int .i64 (p : Int), .int .i64 (L : Int)] 62
  have hb0 := Hb.out.alloc (.cells #[.int .i64 (p : Int), .int .i64 (L : Int)] 62)
  have hst : Blk (w.alloc (.cells #[.int .i64 (p : Int), .int .i64 (L : Int)] 62)) g ((splice bs p ((leDig L x).take 0)).map (Value.int .u8)).toArray 5 := by simpa [splice] using hb0
  clear hb0
  have Hst := Lib.hid hst
  have Hf0 := Lib.hid hf0
  have Hk0 := Lib.hid hk0
  clear hst hf0 hk0
  go_loopw [9] (fun i wr => ∃ k : Nat, k ≤ L ∧ i = .int .i64 k ∧ Blk wr g ((splice bs p ((leDig L x).take k)).map (Value.int .u8)).toArray 5 ∧ Blk wr w.heap.size #[.int .i64 (p : Int), .int .i64 (L : Int)] 62 ∧ Keep (· = g) w wr) (fun i _ => L - (intOf i).toNat)
  case atStart => exact ⟨0, by omega, rfl, Hst.out, Hf0.out, Hk0.out⟩
  case round =>
    obtain ⟨k, hk, rfl, hb, hf, hkp⟩ := hrel
    by_cases hlt : k < L
    · have hne : w.heap.size ≠ g := by omega
      have hlen : (splice bs p ((leDig L x).take k)).length = bs.length := length_splice _ _ _ (by simp [leDig_length]; omega)
      have Hlen := Lib.hid hlen
      have hps : (p : Int) + k < n := by omega
      have hcg : ∃ v0, wr.cell? ⟨g, p + k, none⟩ = some v0 := by
        rw [hb.cell]
        exact ⟨_, Array.getElem?_eq_getElem (by simp [hlen]; omega)⟩
      obtain ⟨v0, hcg⟩ := hcg
      have Hb' := Lib.hid hb
      have Hf' := Lib.hid hf
      have Hk' := Lib.hid hkp
      clear hb hf hkp hlen
      go_wp2
      refine wp_still_tail 11 (by kernel_rfl) (by kernel_rfl) ?_
      intro W hW
      have hW0 : W.cell? ⟨w.heap.size, 0, none⟩ = some (.int .i64 p) := by subst hW; exact Hf'.out.cell 0
      have hW2 : W.cell? ⟨g, p + k, none⟩ = some v0 := by subst hW; exact hcg
      have hW3 : W.frozen? ⟨g, p + k, none⟩ = false := by subst hW; exact Hb'.out.free _
      have hb2 : Blk W g ((splice bs p ((leDig L x).take k)).map (Value.int .u8)).toArray 5 := by subst hW; exact Hb'.out
      have hf2 : Blk W w.heap.size #[.int .i64 (p : Int), .int .i64 (L : Int)] 62 := by subst hW; exact Hf'.out
      have hk2 : Keep (· = g) w W := by subst hW; exact Hk'.out.drew
      have Hb2 := Lib.hid hb2
      have Hf2 := Lib.hid hf2
      have Hk2 := Lib.hid hk2
      clear hW hb2 hf2 hk2 hcg Hb' Hf' Hk'
      simp only [List.take_succ_cons, List.take_zero, List.drop_succ_cons, List.drop_zero]
      have s1 : IntKind.i64.wrap (8 * (k : Int)) = 8 * (k : Int) := IntWalk.i64_in _ (by omega)
      have s2 : IntKind.i64.wrap ((p : Int) + (k : Int)) = (p : Int) + (k : Int) := IntWalk.i64_in _ (by omega)
      have s3 : Op.shift .shr .i64 x .i64 (8 * (k : Int)) = pure (.int .i64 (x / 2 ^ (8 * k))) := by
        rw [shift_shr_any _ _ _ _ (by omega), show (8 * (k : Int)).toNat = 8 * k by omega, show min (8 * k) IntKind.i64.bits = 8 * k from Nat.min_eq_left (by show 8 * k ≤ 64; omega)]
      have s4 : IntKind.u8.wrap (x / 2 ^ (8 * k)) = x / 2 ^ (8 * k) % 256 := by simp [IntKind.wrap, IntKind.bits, IntKind.signed]
      have s5 : ((p : Int) + (k : Int)).toNat = p + k := by omega
      have s6 : (0 : Int) ≤ (p : Int) + (k : Int) := by omega
      iterate 11 still_step
      clear s1 s2 s3 s4 s5 s6
      refine wpStill_nil ?_
      go_wp2
      go_roundw
      case rel =>
        refine ⟨k + 1, by omega, by go_num, ?_, Hf2.out.setOther (fun e => hne e.symm) _, Hk2.out.setCell (by left; rfl) _⟩
        have e : (leDig L x).getD k 0 = x / 2 ^ (8 * k) % 256 := by
          rw [leDig_getD L x k hlt, Int.pow_mul]; rfl
        refine (Hb2.out.set (p + k) _).of ?_
        rw [List.setIfInBounds_toArray, ← List.map_set, ← e, splice_set bs p (leDig L x) k (by rw [leDig_length]; exact hlt) (by omega)]
      case measure => simp [intOf]; omega
    · obtain rfl : k = L := by omega
      have e : (leDig k x).take k = leDig k x := List.take_of_length_le (by rw [leDig_length]; exact Nat.le_refl _)
      rw [e] at hb
      clear e
      go_wp2
      go_end0
      exact ⟨rfl, hb, hkp⟩
end Go.Proofs.YtdkpbobglogmoaaGreat
namespace Go.Proofs.YtdkpbobglogmoaaGreat
open Go.RowKit Go.WideShapes
structure Fld where
  p : Nat
  L : Nat
  off : Nat
def bytesAfter (n : Nat) (F : Nat → Fld) (X : Nat → Int) : Nat → List Int
  | 0 => List.replicate n 0
  | k + 1 => splice (bytesAfter n F X k) (F k).p (leDig (F k).L (X k))
theorem bytesAfter_length (n : Nat) (F : Nat → Fld) (X : Nat → Int) (m : Nat) (h : ∀ k, k < m → (F k).p + (F k).L ≤ n) : ∀ k, k ≤ m → (bytesAfter n F X k).length = n
  | 0, _ => by simp [bytesAfter]
  | k + 1, hk => by
    have ih := bytesAfter_length n F X m h k (by omega)
    have := h k (by omega)
    simp only [bytesAfter]
    rw [length_splice _ _ _ (by rw [leDig_length, ih]; exact this), ih]
def allFit (F : Nat → Fld) (X : Nat → Int) (m : Nat) : Prop := ∀ k, k < m → fits (F k).L (X k) = true
def WrittenPost (w : World) (n m : Nat) (F : Nat → Fld) (X : Nat → Int) (e : Ending) (w' : World) : Prop :=
  Below w.heap.size w w' ∧ ((allFit F X m ∧ ∃ g, w.heap.size ≤ g ∧ e = .returned (.tuple #[.slice (some ⟨g, 0, none⟩) n n, .nilIface]) ∧ Blk w' g ((bytesAfter n F X m).map (Value.int .u8)).toArray 5) ∨
    (¬ allFit F X m ∧ e = .returned (.tuple #[.slice none 0 0, cmdErr 1])))
theorem cell_lt' {w : World} {a : Addr} {v : Value} (h : w.cell? a = some v) : a.block < w.heap.size := by
  unfold World.cell? at h
  by_cases q : a.block < w.heap.size
  · exact q
  · rw [Array.getElem?_eq_none (by omega)] at h; cases h
theorem madeCells_u8' (n : Nat) : madeCells #[.int .u8 0] n = ((List.replicate n (0 : Int)).map (Value.int .u8)).toArray := by
  apply Array.toList_inj.1
  rw [toList_madeCells_one]
  simp
theorem cmd_written (n m lb lc vb : Nat) (F : Nat → Fld) (X : Nat → Int) (w : World) (hn : n ≤ 64) (hm : m ≤ 6) (hlb : lb < w.heap.size) (hvb : vb < w.heap.size)
    (hF : ∀ k, k < m → (F k).p + (F k).L ≤ n ∧ ((F k).L = 1 ∨ (F k).L = 2 ∨ (F k).L = 4 ∨ (F k).L = 8))
    (hX : ∀ k, k < m → -9223372036854775808 ≤ X k ∧ X k ≤ 9223372036854775807)
    (hl : ∀ k, k < m → w.cell? ⟨lb, k * 3, none⟩ = some (.int .i64 ((F k).p : Nat)) ∧ w.cell? ⟨lb, k * 3 + 1, none⟩ = some (.int .i64 ((F k).L : Nat)) ∧ w.cell? ⟨lb, k * 3 + 2, none⟩ = some (.pointer (some ⟨vb, (F k).off, none⟩)))
    (hv : ∀ k, k < m → w.cell? ⟨vb, (F k).off, none⟩ = some (.int .i64 (X k))) :
    Calls Tryz.prog 18 #[.int .i64 n, .slice (some ⟨lb, 0, none⟩) m lc] w (WrittenPost w n m F X) := by
  have hmk := fun (w : World) => run_make_row' (P := Tryz.prog) 33 5 (.int .u8 0) 1 Tryz.underlying33 (by kernel_rfl) rfl .i64 .i64 n (by omega) (by omega) w
  have HF := Lib.hid hF
  have HX := Lib.hid hX
  have Hl := Lib.hid hl
  have Hv := Lib.hid hv
  have Hlen := Lib.hid (bytesAfter_length n F X m (fun k hk => (hF k hk).1))
  clear hF hX hl hv
  go_enter Tryz.func18, Tryz.ntmps18
  go_wp2
  have st1 : Blk (w.alloc (.cells (madeCells #[.int .u8 0] n) 5)) w.heap.size ((bytesAfter n F X 0).map (Value.int .u8)).toArray 5 := (Blk.new _ _ _).of (madeCells_u8' n)
  have st2 : Below w.heap.size w (w.alloc (.cells (madeCells #[.int .u8 0] n) 5)) := (Below.refl _ _).alloc (Nat.le_refl _) _
  have St1 := Lib.hid st1
  have St2 := Lib.hid st2
  clear st1 st2
  go_loopw [13] (fun i wr => ∃ k : Nat, k ≤ m ∧ i = .int .i64 k ∧ allFit F X k ∧ Blk wr w.heap.size ((bytesAfter n F X k).map (Value.int .u8)).toArray 5 ∧ Below w.heap.size w wr) (fun i _ => m - (intOf i).toNat)
  case atStart => exact ⟨0, by omega, rfl, fun k hk => absurd hk (by omega), St1.out, St2.out⟩
  case round =>
    obtain ⟨k, hk, rfl, hfit, hb, hbe⟩ := hrel
    by_cases hlt : k < m
    · obtain ⟨l0, l1, l2⟩ := Hl.out k hlt
      have v0 := Hv.out k hlt
      have hx := HX.out k hlt
      obtain ⟨hFp, hFL⟩ := HF.out k hlt
      have hsplit : bytesAfter n F X (k + 1) = splice (bytesAfter n F X k) (F k).p (leDig (F k).L (X k)) := rfl
      have hfitk : fits (F k).L (X k) = true → allFit F X (k + 1) := fun h j hj => by
        by_cases e : j = k
        · subst e; exact h
        · exact hfit j (by omega)
      have hnfit : fits (F k).L (X k) = false → ¬ allFit F X m := fun h h' => by rw [h' k hlt] at h; cases h
      rw [← hbe.cell (p := ⟨lb, k * 3, none⟩) hlb] at l0
      rw [← hbe.cell (p := ⟨lb, k * 3 + 1, none⟩) hlb] at l1
      rw [← hbe.cell (p := ⟨lb, k * 3 + 2, none⟩) hlb] at l2
      rw [← hbe.cell (p := ⟨vb, (F k).off, none⟩) hvb] at v0
      have hlenk := Hlen.out k (by omega)
      have Hsp := Lib.hid hsplit
      have Hfk := Lib.hid hfitk
      have Hnf := Lib.hid hnfit
      have Hlk := Lib.hid hlenk
      clear hsplit hfitk hnfit hfit hlenk
      generalize (F k).p = pp at *
      generalize (F k).L = LL at *
      generalize (F k).off = oo at *
      generalize X k = xx at *
      generalize bytesAfter n F X k = bs at *
      have Hb := Lib.hid hb
      have Hbe := Lib.hid hbe
      have hsz := hbe.size
      have hgl := hb.lt
      clear hb hbe
      obtain ⟨hx0, hx1⟩ := hx
      go_wp2
      refine wp_still_tail 6 (by kernel_rfl) (by kernel_rfl) ?_
      intro W hW
      have hB1 : Blk W wr.heap.size #[.int .i64 (pp : Int), .int .i64 (LL : Int), .pointer (some ⟨vb, oo, none⟩)] 65 := by subst hW; exact (Blk.new _ _ _).drew
      have hB2 : Blk W w.heap.size (bs.map (Value.int .u8)).toArray 5 := by subst hW; exact (Hb.out.alloc _).drew
      have hB3 : Below w.heap.size w W := by subst hW; exact (Hbe.out.alloc hsz _).drew
      have hB4 : W.cell? ⟨vb, oo, none⟩ = some (.int .i64 xx) := by subst hW; rw [World.cell?_drew, World.cell?_alloc_past _ _ _ (by omega)]; exact v0
      have e0 : W.cell? ⟨wr.heap.size, 0, none⟩ = some (.int .i64 (pp : Int)) := hB1.cell 0
      have e1 : W.cell? ⟨wr.heap.size, 1, none⟩ = some (.int .i64 (LL : Int)) := hB1.cell 1
      have e2 : W.cell? ⟨wr.heap.size, 2, none⟩ = some (.pointer (some ⟨vb, oo, none⟩)) := hB1.cell 2
      have hwne : wr.heap.size ≠ w.heap.size := by omega
      have HB1 := Lib.hid hB1
      have HB2 := Lib.hid hB2
      have HB3 := Lib.hid hB3
      clear hW hB1 hB2 hB3 l0 l1 l2 v0
      simp only [List.take_succ_cons, List.take_zero, List.drop_succ_cons, List.drop_zero]
      iterate 6 still_step
      refine wpStill_nil ?_
      go_wp2_with fail
      refine (cmd_within pp LL xx _ hFL hx0 hx1).mono ?_
      rintro e w5 ⟨rfl, hw5⟩
      have e0' : w5.cell? ⟨wr.heap.size, 0, none⟩ = some (.int .i64 (pp : Int)) := by rw [hw5.cell (p := ⟨wr.heap.size, 0, none⟩) HB1.out.lt]; exact e0
      have e1' : w5.cell? ⟨wr.heap.size, 1, none⟩ = some (.int .i64 (LL : Int)) := by rw [hw5.cell (p := ⟨wr.heap.size, 1, none⟩) HB1.out.lt]; exact e1
      have e2' : w5.cell? ⟨wr.heap.size, 2, none⟩ = some (.pointer (some ⟨vb, oo, none⟩)) := by rw [hw5.cell (p := ⟨wr.heap.size, 2, none⟩) HB1.out.lt]; exact e2
      have v0' : w5.cell? ⟨vb, oo, none⟩ = some (.int .i64 xx) := by rw [hw5.cell (p := ⟨vb, oo, none⟩) (cell_lt' hB4)]; exact hB4
      have hK5 : Keep (fun _ => False) W w5 := Keep.ofBelow hw5 (fun k h1 h2 => absurd h1 (by omega))
      have hb5 : Blk w5 w.heap.size (bs.map (Value.int .u8)).toArray 5 := hK5.blk HB2.out (fun h => h)
      have hbe5 : Below w.heap.size w w5 := HB3.out.trans (hw5.mono HB3.out.size)
      have Hb5 := Lib.hid hb5
      have Hbe5 := Lib.hid hbe5
      have hsz5 := hbe5.size
      have hlt5 := hb5.lt
      clear hw5 hK5 hb5 hbe5 e0 e1 e2 hB4
      cases hfx : fits LL xx with
      | false =>
        have Hno := Lib.hid (Hnf.out hfx)
        clear hfx
        go_wp2
        go_ret2
        exact ⟨Hbe5.out, .inr ⟨Hno.out, rfl⟩⟩
      | true =>
        have Hyes := Lib.hid (Hfk.out hfx)
        have hxnn : 0 ≤ xx := by unfold fits at hfx; simp at hfx; omega
        clear hfx
        go_wp2
        refine wp_still_tail 7 (by kernel_rfl) (by kernel_rfl) ?_
        intro W2 hW
        have d0 : W2.cell? ⟨wr.heap.size, 0, none⟩ = some (.int .i64 (pp : Int)) := by subst hW; exact e0'
        have d1 : W2.cell? ⟨wr.heap.size, 1, none⟩ = some (.int .i64 (LL : Int)) := by subst hW; exact e1'
        have d2 : W2.cell? ⟨wr.heap.size, 2, none⟩ = some (.pointer (some ⟨vb, oo, none⟩)) := by subst hW; exact e2'
        have d3 : W2.cell? ⟨vb, oo, none⟩ = some (.int .i64 xx) := by subst hW; exact v0'
        have hb6 : Blk W2 w.heap.size (bs.map (Value.int .u8)).toArray 5 := by subst hW; exact Hb5.out
        have hbe6 : Below w.heap.size w W2 := by subst hW; exact Hbe5.out.drew
        have Hb6 := Lib.hid hb6
        have Hbe6 := Lib.hid hbe6
        clear hW hb6 hbe6 e0' e1' e2' v0'
        simp only [List.take_succ_cons, List.take_zero, List.drop_succ_cons, List.drop_zero]
        iterate 7 still_step
        refine wpStill_nil ?_
        go_wp2_with fail
        refine (cmd_put pp LL w.heap.size n n bs xx _ (by omega) hFp hn Hb6.out Hlk.out hxnn hx1).mono ?_
        rintro e w7 ⟨rfl, hb7, hk7⟩
        rw [← Hsp.out] at hb7
        have hbe7 : Below w.heap.size w w7 := Hbe6.out.trans (hk7.below w.heap.size Hbe6.out.size (fun k e => by omega))
        have Hb7 := Lib.hid hb7
        have Hbe7 := Lib.hid hbe7
        clear hb7 hbe7 hk7
        go_wp2
        go_roundw
        case rel => exact ⟨k + 1, by omega, by go_num, Hyes.out, Hb7.out, Hbe7.out⟩
        case measure => simp [intOf]; omega
    · obtain rfl : k = m := by omega
      go_wp2
      go_ret2
      exact ⟨hbe, .inl ⟨hfit, _, Nat.le_refl _, rfl, hb⟩⟩
end Go.Proofs.YtdkpbobglogmoaaGreat
namespace Go.Proofs.YtdkpbobglogmoaaGreat
open Go.RowKit Go.WideShapes
def cmdFld : Nat → Fld
  | 0 => ⟨0, 1, 0⟩
  | 1 => ⟨2, 2, 1⟩
  | 2 => ⟨8, 8, 2⟩
  | 3 => ⟨16, 4, 3⟩
  | 4 => ⟨24, 8, 4⟩
  | _ => ⟨32, 8, 5⟩
def cmdNum (x0 x1 x2 x3 x4 x5 : Int) : Nat → Int
  | 0 => x0
  | 1 => x1
  | 2 => x2
  | 3 => x3
  | 4 => x4
  | _ => x5
def cmdV (x0 x1 x2 x3 x4 x5 : Int) : Value := .agg #[.int .i64 x0, .int .i64 x1, .int .i64 x2, .int .i64 x3, .int .i64 x4, .int .i64 x5]
theorem six {P : Nat → Prop} (h0 : P 0) (h1 : P 1) (h2 : P 2) (h3 : P 3) (h4 : P 4) (h5 : P 5) : ∀ k, k < 6 → P k := by
  intro k hk
  rcases (by omega : k = 0 ∨ k = 1 ∨ k = 2 ∨ k = 3 ∨ k = 4 ∨ k = 5) with rfl | rfl | rfl | rfl | rfl | rfl <;> assumption
def EncPost (w : World) (x0 x1 x2 x3 x4 x5 : Int) (e : Ending) (w' : World) : Prop :=
  Below w.heap.size w w' ∧ ((allFit cmdFld (cmdNum x0 x1 x2 x3 x4 x5) 6 ∧ ∃ g, w.heap.size ≤ g ∧ e = .returned (.tuple #[.slice (some ⟨g, 0, none⟩) 64 64, .nilIface]) ∧ Blk w' g ((bytesAfter 64 cmdFld (cmdNum x0 x1 x2 x3 x4 x5) 6).map (Value.int .u8)).toArray 5) ∨
    (¬ allFit cmdFld (cmdNum x0 x1 x2 x3 x4 x5) 6 ∧ e = .returned (.tuple #[.slice none 0 0, cmdErr 1])))
def I64 (x : Int) : Prop := -9223372036854775808 ≤ x ∧ x ≤ 9223372036854775807
theorem cmd_encode (x0 x1 x2 x3 x4 x5 : Int) (w : World) (b0 : I64 x0) (b1 : I64 x1) (b2 : I64 x2) (b3 : I64 x3) (b4 : I64 x4) (b5 : I64 x5) :
    Calls Tryz.prog 7 #[cmdV x0 x1 x2 x3 x4 x5] w (EncPost w x0 x1 x2 x3 x4 x5) := by
  have HB := Lib.hid (six (P := fun k => -9223372036854775808 ≤ cmdNum x0 x1 x2 x3 x4 x5 k ∧ cmdNum x0 x1 x2 x3 x4 x5 k ≤ 9223372036854775807) b0 b1 b2 b3 b4 b5)
  clear b0 b1 b2 b3 b4 b5
  unfold cmdV
  go_enter Tryz.func7, Tryz.ntmps7
  go_wp2_with fail
  refine (cmd_command w.heap.size _ (by simp)).mono ?_
  rintro e w1 ⟨rfl, hw1⟩
  have hc1 : Blk w1 w.heap.size #[.int .i64 x0, .int .i64 x1, .int .i64 x2, .int .i64 x3, .int .i64 x4, .int .i64 x5] 24 := (Keep.ofBelow (S := fun _ => False) hw1 (fun k h1 h2 => absurd h1 (by omega))).blk (Blk.new _ _ _) (fun h => h)
  have hbe1 : Below w.heap.size w w1 := ((Below.refl _ _).alloc (Nat.le_refl _) _).trans (hw1.mono (by simp))
  have Hc1 := Lib.hid hc1
  have Hbe1 := Lib.hid hbe1
  have hl1 := hc1.lt
  clear hw1 hc1 hbe1
  go_wp2_with (with_reducible refine wpList_store_row rfl 66 (.tmp 4) (.tmp 5) rfl w1.heap.size (commandCells w.heap.size) rfl rfl 66 zeroPairs6 ?hg (by kernel_rfl) rfl (by simp [commandCells, Value.oneCell']) ?_)
  case hg => exact Blk.new _ _ _
  have hr := setRow_heap (w1.alloc (.cells zeroPairs6 66)) w1.heap.size zeroPairs6 (commandCells w.heap.size) 66 (0, 0) (Blk.new _ _ _)
  have hb2 : Below w1.heap.size w1 ((w1.alloc (.cells zeroPairs6 66)).setRow w1.heap.size (commandCells w.heap.size)) := below_setRow ((Below.refl _ _).alloc (Nat.le_refl _) _) (Nat.le_refl _) _
  have hs2 : w1.heap.size < ((w1.alloc (.cells zeroPairs6 66)).setRow w1.heap.size (commandCells w.heap.size)).heap.size := by simp
  change Calls _ _ _ ((w1.alloc (.cells zeroPairs6 66)).setRow w1.heap.size (commandCells w.heap.size)) _
  generalize hW : (w1.alloc (.cells zeroPairs6 66)).setRow w1.heap.size (commandCells w.heap.size) = W2 at hr hb2 hs2 ⊢
  have hc2 : Blk W2 w.heap.size #[.int .i64 x0, .int .i64 x1, .int .i64 x2, .int .i64 x3, .int .i64 x4, .int .i64 x5] 24 := (Keep.ofBelow (S := fun _ => False) hb2 (fun k h1 h2 => absurd h1 (by omega))).blk Hc1.out (fun h => h)
  have hr' : Blk W2 w1.heap.size (commandCells w.heap.size) 66 := hr
  have hbe2 : Below w.heap.size w W2 := Hbe1.out.trans (hb2.mono Hbe1.out.size)
  refine (cmd_written 64 6 w1.heap.size 6 w.heap.size cmdFld (cmdNum x0 x1 x2 x3 x4 x5) W2 (by omega) (by omega) hs2 hc2.lt
    (six (P := fun k => (cmdFld k).p + (cmdFld k).L ≤ 64 ∧ ((cmdFld k).L = 1 ∨ (cmdFld k).L = 2 ∨ (cmdFld k).L = 4 ∨ (cmdFld k).L = 8)) (by simp [cmdFld]) (by simp [cmdFld]) (by simp [cmdFld]) (by simp [cmdFld]) (by simp [cmdFld]) (by simp [cmdFld]))
    HB.out
    (six (P := fun k => W2.cell? ⟨w1.heap.size, k * 3, none⟩ = some (.int .i64 ((cmdFld k).p : Nat)) ∧ W2.cell? ⟨w1.heap.size, k * 3 + 1, none⟩ = some (.int .i64 ((cmdFld k).L : Nat)) ∧ W2.cell? ⟨w1.heap.size, k * 3 + 2, none⟩ = some (.pointer (some ⟨w.heap.size, (cmdFld k).off, none⟩)))
      ⟨hr'.cell 0, hr'.cell 1, hr'.cell 2⟩ ⟨hr'.cell 3, hr'.cell 4, hr'.cell 5⟩ ⟨hr'.cell 6, hr'.cell 7, hr'.cell 8⟩ ⟨hr'.cell 9, hr'.cell 10, hr'.cell 11⟩ ⟨hr'.cell 12, hr'.cell 13, hr'.cell 14⟩ ⟨hr'.cell 15, hr'.cell 16, hr'.cell 17⟩)
    (six (P := fun k => W2.cell? ⟨w.heap.size, (cmdFld k).off, none⟩ = some (.int .i64 (cmdNum x0 x1 x2 x3 x4 x5 k))) (hc2.cell 0) (hc2.cell 1) (hc2.cell 2) (hc2.cell 3) (hc2.cell 4) (hc2.cell 5))).mono ?_
  rintro e w3 ⟨hbe3, ⟨hfit, g, hg, rfl, hb3⟩ | ⟨hno, rfl⟩⟩
  · have Hfin : Hid (EncPost w x0 x1 x2 x3 x4 x5 (.returned (.tuple #[.slice (some ⟨g, 0, none⟩) 64 64, .nilIface])) w3) :=
      ⟨hbe2.trans (hbe3.mono hbe2.size), .inl ⟨hfit, g, by have := hbe2.size; omega, rfl, hb3⟩⟩
    clear hfit hg hb3 hbe3 hbe2 hr' hc2 hr hb2 hs2 hW
    go_wp2
    go_ret2
    exact Hfin.out
  · have Hfin : Hid (EncPost w x0 x1 x2 x3 x4 x5 (.returned (.tuple #[.slice none 0 0, cmdErr 1])) w3) :=
      ⟨hbe2.trans (hbe3.mono hbe2.size), .inr ⟨hno, rfl⟩⟩
    clear hno hbe3 hbe2 hr' hc2 hr hb2 hs2 hW
    unfold cmdErr at Hfin ⊢
    go_wp2
    go_ret2
    exact Hfin.out
end Go.Proofs.YtdkpbobglogmoaaGreat
namespace Go.Proofs.YtdkpbobglogmoaaGreat
open Go.RowKit Go.WideShapes
theorem cmd_get (p L bb off n c : Nat) (bs : List Int) (w : World) (hL : L ≤ 8) (hp : p + L ≤ n) (hn : n ≤ 64) (hbs : bs.length = n) (hbyte : ∀ x ∈ bs, 0 ≤ x ∧ x ≤ 255) (hbl : bb < w.heap.size)
    (hc : ∀ i, i < n → w.cell? ⟨bb, off + i, none⟩ = some (.int .u8 (bs.getD i 0))) :
    Calls Tryz.prog 19 #[.agg #[.int .i64 p, .int .i64 L], .slice (some ⟨bb, off, none⟩) n c] w fun e w' => e = .returned (.int .u64 (leNum ((bs.drop p).take L))) ∧ w.alloc (.cells #[.int .i64 p, .int .i64 L] 62) = w' := by
  obtain ⟨ys, hys⟩ : ∃ ys, ys = (bs.drop p).take L := ⟨_, rfl⟩
  have hl : ys.length = L := by subst hys; simp; omega
  have hyb : ∀ x ∈ ys, 0 ≤ x ∧ x ≤ 255 := fun x hx => by subst hys; exact hbyte x (List.mem_of_mem_drop (List.mem_of_mem_take hx))
  have hyc : ∀ k, k < L → w.cell? ⟨bb, off + (p + k), none⟩ = some (.int .u8 (ys.getD k 0)) := by
    intro k hk
    rw [hc (p + k) (by omega)]
    subst hys
    simp [List.getD, hk]
  rw [← hys]
  have Hl := Lib.hid hl
  have Hy := Lib.hid hyb
  have Hc := Lib.hid hyc
  clear hc hbyte hys hl hyb hyc
  go_enter Tryz.func19, Tryz.ntmps19
  go_wp2
  obtain ⟨W, hW⟩ : ∃ W, W = w.alloc (.cells #[.int .i64 (p : Int), .int .i64 (L : Int)] 62) := ⟨_, rfl⟩
  have HW := Lib.hid hW
  rw [← hW]
  have d0 : W.cell? ⟨w.heap.size, 0, none⟩ = some (.int .i64 (p : Int)) := by subst hW; simp
  have hcc : ∀ k, k < L → W.cell? ⟨bb, off + (p + k), none⟩ = some (.int .u8 (ys.getD k 0)) := by
    intro k hk; subst hW; rw [World.cell?_alloc_past _ _ _ (by omega)]; exact Hc.out k hk
  have Hcc := Lib.hid hcc
  clear hW hcc
  go_loop [5, 9] (fun x i => ∃ k : Nat, k ≤ L ∧ i = .int .i64 k ∧ x = .int .u64 (leNum (ys.take k))) (fun _ i => L - (intOf i).toNat)
  case atStart => exact ⟨0, by omega, rfl, rfl⟩
  case round =>
    obtain ⟨k, hk, rfl, rfl⟩ := hrel
    by_cases hlt : k < L
    · have cc := Hcc.out k hlt
      have hbd := leNum_bd (ys.take k) (fun x hx => Hy.out x (List.mem_of_mem_take hx))
      have hkl : k < ys.length := by rw [Hl.out]; exact hlt
      have hsn : leNum (ys.take (k + 1)) = leNum (ys.take k) + 256 ^ k * ys.getD k 0 := by
        have e : ys.take (k + 1) = ys.take k ++ [ys.getD k 0] := by
          rw [List.take_succ_eq_append_getElem hkl]; simp [List.getD, List.getElem?_eq_getElem hkl]
        rw [e, leNum_snoc]; simp [Nat.min_eq_left (Nat.le_of_lt hkl)]
      have hv : 0 ≤ ys.getD k 0 ∧ ys.getD k 0 ≤ 255 := by
        have e : ys.getD k 0 = ys[k] := by simp [List.getD, List.getElem?_eq_getElem hkl]
        rw [e]; exact Hy.out _ (List.getElem_mem _)
      have hkl2 : (ys.take k).length = k := by simp [Hl.out]; omega
      rw [hkl2] at hbd
      have Hsn := Lib.hid hsn
      clear hsn hkl hkl2
      generalize ys.getD k 0 = v at *
      generalize leNum (ys.take k) = X at *
      obtain ⟨v0, v1⟩ := hv
      obtain ⟨x0, x1⟩ := hbd
      have hpk : (p : Int) + k < n := by omega
      go_wp2
      go_round
      case rel => exact ⟨k + 1, by omega, by go_num, by rw [or_shift k X v (by omega) x0 x1 v0 v1, Hsn.out]⟩
      case measure => simp [intOf]; omega
    · obtain rfl : k = L := by omega
      have e : ys.take k = ys := List.take_of_length_le (by rw [Hl.out]; exact Nat.le_refl _)
      rw [e]
      clear e
      go_wp2
      go_ret
      exact ⟨rfl, HW.out.symm⟩
end Go.Proofs.YtdkpbobglogmoaaGreat
namespace Go.Proofs.YtdkpbobglogmoaaGreat
open Go.RowKit Go.WideShapes
def cmdAt (bs : List Int) (k : Nat) : Int := leNum ((bs.drop (cmdFld k).p).take (cmdFld k).L)
def uptoN (X : Nat → Int) (k i : Nat) : Int := if i < k then X i else 0
def cmdUpto (X : Nat → Int) (k : Nat) : Array Value := #[.int .i64 (uptoN X k 0), .int .i64 (uptoN X k 1), .int .i64 (uptoN X k 2), .int .i64 (uptoN X k 3), .int .i64 (uptoN X k 4), .int .i64 (uptoN X k 5)]
theorem cmdUpto_set (X : Nat → Int) : ∀ k, k < 6 → (cmdUpto X k).setIfInBounds k (.int .i64 (X k)) = cmdUpto X (k + 1) :=
  six (P := fun k => (cmdUpto X k).setIfInBounds k (.int .i64 (X k)) = cmdUpto X (k + 1)) (by simp [cmdUpto, uptoN]) (by simp [cmdUpto, uptoN]) (by simp [cmdUpto, uptoN]) (by simp [cmdUpto, uptoN]) (by simp [cmdUpto, uptoN]) (by simp [cmdUpto, uptoN])
theorem cmd_index (b : Nat) : ∀ k, k < 6 → ∀ w, (Instr.index 66 (.agg (commandCells b)) (.int .i64 (k : Nat))).run Tryz.prog w = .ok (.agg #[.int .i64 ((cmdFld k).p : Nat), .int .i64 ((cmdFld k).L : Nat), .pointer (some ⟨b, (cmdFld k).off, none⟩)]) w :=
  six (P := fun k => ∀ w, (Instr.index 66 (.agg (commandCells b)) (.int .i64 (k : Nat))).run Tryz.prog w = .ok (.agg #[.int .i64 ((cmdFld k).p : Nat), .int .i64 ((cmdFld k).L : Nat), .pointer (some ⟨b, (cmdFld k).off, none⟩)]) w)
    (fun _ => by kernel_rfl) (fun _ => by kernel_rfl) (fun _ => by kernel_rfl) (fun _ => by kernel_rfl) (fun _ => by kernel_rfl) (fun _ => by kernel_rfl)
def zero6 : Array Value := #[.int .i64 0, .int .i64 0, .int .i64 0, .int .i64 0, .int .i64 0, .int .i64 0]
def zeroCmd : Value := .agg #[.int .i64 0, .int .i64 0, .int .i64 0, .int .i64 0, .int .i64 0, .int .i64 0]
def cmdOk (bs : List Int) (m : Nat) : Prop := ∀ k, k < m → cmdAt bs k ≤ 4611686018427387904
def DecPost (w : World) (bs : List Int) (e : Ending) (w' : World) : Prop :=
  Below w.heap.size w w' ∧ ((cmdOk bs 6 ∧ e = .returned (.tuple #[cmdV (cmdAt bs 0) (cmdAt bs 1) (cmdAt bs 2) (cmdAt bs 3) (cmdAt bs 4) (cmdAt bs 5), .nilIface])) ∨
    (¬ cmdOk bs 6 ∧ e = .returned (.tuple #[zeroCmd, cmdErr 1])))
theorem wpList_stop {P : Program} {ops : Array Oper} {rest : List Oper} {o : Oper} {a : Act} {w : World} {Q : Exit → Act → World → Prop} (x : Op) (ho : o.op = x) (h : False ∨ wpList P ops Q (o :: rest) a w) : wpList P ops Q (o :: rest) a w := h.elim (fun h => h.elim) id
theorem cmd_decode (bb off c : Nat) (bs : List Int) (w : World) (hbs : bs.length = 64) (hbyte : ∀ x ∈ bs, 0 ≤ x ∧ x ≤ 255) (hbl : bb < w.heap.size)
    (hc : ∀ i, i < 64 → w.cell? ⟨bb, off + i, none⟩ = some (.int .u8 (bs.getD i 0))) :
    Calls Tryz.prog 8 #[.slice (some ⟨bb, off, none⟩) 64 c] w (DecPost w bs) := by
  have Hc := Lib.hid hc
  have Hbyte := Lib.hid hbyte
  clear hc hbyte
  go_enter Tryz.func8, Tryz.ntmps8
  go_wp2_with fail
  refine (cmd_command (w.heap.size + 1) _ (by simp)).mono ?_
  rintro e w1 ⟨rfl, hw1⟩
  have hw1' : Below ((w.alloc (.cells zero6 24)).alloc (.cells zero6 24)).heap.size ((w.alloc (.cells zero6 24)).alloc (.cells zero6 24)) w1 := hw1
  have hK1 : Keep (fun _ => False) ((w.alloc (.cells zero6 24)).alloc (.cells zero6 24)) w1 := Keep.ofBelow hw1' (fun k h1 h2 => absurd h1 (by omega))
  have e0 : cmdUpto (cmdAt bs) 0 = zero6 := by simp [cmdUpto, uptoN, zero6]
  have hr1 : Blk w1 w.heap.size (cmdUpto (cmdAt bs) 0) 24 := by rw [e0]; exact hK1.blk ((Blk.new _ _ _).alloc _) (fun h => h)
  have hc1 : Blk w1 (w.heap.size + 1) (cmdUpto (cmdAt bs) 0) 24 := by
    rw [e0]
    have := hK1.blk (Blk.new (w.alloc (.cells zero6 24)) zero6 24) (fun h => h)
    simpa using this
  have hbe1 : Below w.heap.size w w1 := (((Below.refl _ _).alloc (Nat.le_refl _) _).alloc (by simp) _).trans (hw1'.mono (by simp; omega))
  clear hw1' e0
  have Hr1 := Lib.hid hr1
  have Hc1 := Lib.hid hc1
  have Hbe1 := Lib.hid hbe1
  clear hw1 hK1 hr1 hc1 hbe1
  obtain ⟨cb, hcb⟩ : ∃ cb, cb = w.heap.size + 1 := ⟨_, rfl⟩
  have hcbl : w.heap.size < cb := by omega
  rw [← hcb] at Hc1 ⊢
  clear hcb
  go_wp2_with fail
  go_loopw [14] (fun i wr => ∃ k : Nat, k ≤ 6 ∧ i = .int .i64 k ∧ cmdOk bs k ∧ Blk wr w.heap.size (cmdUpto (cmdAt bs) 0) 24 ∧ Blk wr cb (cmdUpto (cmdAt bs) k) 24 ∧ Below w.heap.size w wr) (fun i _ => 6 - (intOf i).toNat)
  case atStart => exact ⟨0, by omega, rfl, fun k hk => absurd hk (by omega), Hr1.out, Hc1.out, Hbe1.out⟩
  case round =>
    obtain ⟨k, hk, rfl, hok, hr, hcmd, hbe⟩ := hrel
    by_cases hlt : k < 6
    · have hidx := cmd_index cb k hlt
      have hF := six (P := fun k => (cmdFld k).p + (cmdFld k).L ≤ 64 ∧ ((cmdFld k).L = 1 ∨ (cmdFld k).L = 2 ∨ (cmdFld k).L = 4 ∨ (cmdFld k).L = 8) ∧ (cmdFld k).off = k) (by simp [cmdFld]) (by simp [cmdFld]) (by simp [cmdFld]) (by simp [cmdFld]) (by simp [cmdFld]) (by simp [cmdFld]) k hlt
      have hX : cmdAt bs k = leNum ((bs.drop (cmdFld k).p).take (cmdFld k).L) := rfl
      have hset := cmdUpto_set (cmdAt bs) k hlt
      have hnew : cmdAt bs k ≤ 4611686018427387904 → cmdOk bs (k + 1) := fun h j hj => by
        by_cases e : j = k
        · subst e; exact h
        · exact hok j (by omega)
      have hnot : ¬ cmdAt bs k ≤ 4611686018427387904 → ¬ cmdOk bs 6 := fun h h' => h (h' k hlt)
      obtain ⟨hF1, hF2, hF3⟩ := hF
      rw [hF3] at hidx
      have hb0 := leNum_bd ((bs.drop (cmdFld k).p).take (cmdFld k).L) (fun x hx => Hbyte.out x (List.mem_of_mem_drop (List.mem_of_mem_take hx)))
      have hl0 : ((bs.drop (cmdFld k).p).take (cmdFld k).L).length = (cmdFld k).L := by simp; omega
      rw [hl0, ← hX] at hb0
      have hb1 : cmdAt bs k < 18446744073709551616 := by
        rcases hF2 with h | h | h | h <;> rw [h] at hb0 <;> (have := hb0.2; simp at this; omega)
      have hb0' := hb0.1
      clear hb0 hl0 hok
      generalize (cmdFld k).p = pp at *
      generalize (cmdFld k).L = LL at *
      have HX := Lib.hid hX
      have Hset := Lib.hid hset
      have Hnew := Lib.hid hnew
      have Hnot := Lib.hid hnot
      have fcb := hcmd.free k
      have ccb : ∃ v0, wr.cell? ⟨cb, k, none⟩ = some v0 := by
        rw [hcmd.cell]
        exact ⟨_, Array.getElem?_eq_getElem (by simp [cmdUpto]; omega)⟩
      obtain ⟨v0, ccb⟩ := ccb
      have clt := hcmd.lt
      have hsz := hbe.size
      have Hr := Lib.hid hr
      have Hcmd := Lib.hid hcmd
      have Hbe := Lib.hid hbe
      clear hX hset hnew hnot hr hcmd hbe
      generalize cmdAt bs k = xk at *
      go_wp2_with fail
      refine (cmd_get pp LL bb off 64 c bs _ (by omega) hF1 (by omega) hbs Hbyte.out (by simp; omega) (fun i hi => by rw [World.cell?_alloc_past _ _ _ (by omega), Hbe.out.cell (p := ⟨bb, off + i, none⟩) hbl]; exact Hc.out i hi)).mono ?_
      rintro e w' ⟨rfl, rfl⟩
      rw [← HX.out]
      by_cases hle : xk ≤ 4611686018427387904
      · have Hok := Lib.hid (Hnew.out hle)
        go_wp2_with fail
        go_roundw
        case rel =>
          have hr := Hr.out
          have hcmd := Hcmd.out
          have hbe := Hbe.out
          refine ⟨k + 1, by omega, by go_num, Hok.out, ?_, Blk.of (c := (cmdUpto (cmdAt bs) k).setIfInBounds k (.int .i64 xk)) ?_ Hset.out, ?_⟩
          · repeat (first | with_reducible exact hr | with_reducible apply Blk.alloc | (with_reducible refine Blk.setOther ?_ (by simp; omega) _))
          · repeat (first | with_reducible exact hcmd | with_reducible apply Blk.alloc | with_reducible apply Blk.set)
          · repeat (first | with_reducible exact hbe | (with_reducible refine Below.alloc ?_ (by simp; omega) _) | (with_reducible refine Below.setCell ?_ (by simp; omega) _))
        case measure => simp [intOf]; omega
      · have Hno := Lib.hid (Hnot.out (by omega))
        have hgt : 4611686018427387904 < xk := by omega
        clear hle
        go_wp2_with (with_reducible refine wpList_store_row rfl 24 (.tmp 2) (.tmp 23) rfl w.heap.size zero6 rfl rfl 24 (cmdUpto (cmdAt bs) 0) ?hg (by kernel_rfl) rfl (by simp [zero6, Value.oneCell']) ?_)
        case hg => exact (Hr.out.alloc _).alloc _
        have hrow := setRow_heap _ w.heap.size (cmdUpto (cmdAt bs) 0) zero6 24 (0, 0) ((Hr.out.alloc (.cells #[.int .i64 (pp : Int), .int .i64 (LL : Int), .pointer (some ⟨cb, k, none⟩)] 65)).alloc (.cells #[.int .i64 (pp : Int), .int .i64 (LL : Int)] 62))
        have hbe2 := below_setRow ((Hbe.out.alloc hsz (.cells #[.int .i64 (pp : Int), .int .i64 (LL : Int), .pointer (some ⟨cb, k, none⟩)] 65)).alloc (by simp; omega) (.cells #[.int .i64 (pp : Int), .int .i64 (LL : Int)] 62)) (Nat.le_refl w.heap.size) zero6
        generalize ((wr.alloc (.cells #[.int .i64 (pp : Int), .int .i64 (LL : Int), .pointer (some ⟨cb, k, none⟩)] 65)).alloc (.cells #[.int .i64 (pp : Int), .int .i64 (LL : Int)] 62)).setRow w.heap.size zero6 = W3 at hrow hbe2 ⊢
        have hrow' : Blk W3 w.heap.size zero6 24 := hrow
        have q0 := hrow'.cell 0
        have q1 := hrow'.cell 1
        have q2 := hrow'.cell 2
        have q3 := hrow'.cell 3
        have q4 := hrow'.cell 4
        have q5 := hrow'.cell 5
        simp only [zero6] at q0 q1 q2 q3 q4 q5
        have Hbe2 := Lib.hid hbe2
        clear hrow hrow' hbe2
        go_wp2
        exact bodyPost_ret (v := .tuple #[zeroCmd, cmdErr 1]) (by simp [results, Tryz.results8, go_sem, zeroCmd, cmdErr, q0, q1, q2, q3, q4, q5]) rfl ⟨Hbe2.out, .inr ⟨Hno.out, rfl⟩⟩
    · obtain rfl : k = 6 := by omega
      have e6 : cmdUpto (cmdAt bs) 6 = #[.int .i64 (cmdAt bs 0), .int .i64 (cmdAt bs 1), .int .i64 (cmdAt bs 2), .int .i64 (cmdAt bs 3), .int .i64 (cmdAt bs 4), .int .i64 (cmdAt bs 5)] := by simp [cmdUpto, uptoN]
      rw [e6] at hcmd
      have hrow := setRow_heap wr w.heap.size (cmdUpto (cmdAt bs) 0) #[.int .i64 (cmdAt bs 0), .int .i64 (cmdAt bs 1), .int .i64 (cmdAt bs 2), .int .i64 (cmdAt bs 3), .int .i64 (cmdAt bs 4), .int .i64 (cmdAt bs 5)] 24 (0, 0) hr
      have hbe2 := below_setRow hbe (Nat.le_refl w.heap.size) #[.int .i64 (cmdAt bs 0), .int .i64 (cmdAt bs 1), .int .i64 (cmdAt bs 2), .int .i64 (cmdAt bs 3), .int .i64 (cmdAt bs 4), .int .i64 (cmdAt bs 5)]
      have Hrow := Lib.hid hrow
      have Hbe2 := Lib.hid hbe2
      have Hr := Lib.hid hr
      have Hcmd := Lib.hid hcmd
      have Hok := Lib.hid hok
      clear hrow hbe2 hr hcmd hok e6 hbe
      generalize hy0 : cmdAt bs 0 = y0 at *
      have Y0 := Lib.hid hy0
      clear hy0
      generalize hy1 : cmdAt bs 1 = y1 at *
      have Y1 := Lib.hid hy1
      clear hy1
      generalize hy2 : cmdAt bs 2 = y2 at *
      have Y2 := Lib.hid hy2
      clear hy2
      generalize hy3 : cmdAt bs 3 = y3 at *
      have Y3 := Lib.hid hy3
      clear hy3
      generalize hy4 : cmdAt bs 4 = y4 at *
      have Y4 := Lib.hid hy4
      clear hy4
      generalize hy5 : cmdAt bs 5 = y5 at *
      have Y5 := Lib.hid hy5
      clear hy5
      have g0 := Hcmd.out.cell 0
      have g1 := Hcmd.out.cell 1
      have g2 := Hcmd.out.cell 2
      have g3 := Hcmd.out.cell 3
      have g4 := Hcmd.out.cell 4
      have g5 := Hcmd.out.cell 5
      simp only [List.getElem?_toArray, List.getElem?_cons_zero, List.getElem?_cons_succ] at g0 g1 g2 g3 g4 g5
      go_wp2_with (with_reducible refine wpList_stop (.store 24 (.tmp 2) (.tmp 31)) rfl ?_)
      refine .inr ?_
      refine wpList_store_row rfl 24 (.tmp 2) (.tmp 31) rfl w.heap.size #[.int .i64 y0, .int .i64 y1, .int .i64 y2, .int .i64 y3, .int .i64 y4, .int .i64 y5] rfl rfl 24 (cmdUpto (cmdAt bs) 0) Hr.out (by kernel_rfl) rfl (by simp [Value.oneCell']) ?_
      clear g0 g1 g2 g3 g4 g5
      generalize wr.setRow w.heap.size #[.int .i64 y0, .int .i64 y1, .int .i64 y2, .int .i64 y3, .int .i64 y4, .int .i64 y5] = W3 at Hrow Hbe2 ⊢
      have hrow' : Blk W3 w.heap.size #[.int .i64 y0, .int .i64 y1, .int .i64 y2, .int .i64 y3, .int .i64 y4, .int .i64 y5] 24 := Hrow.out
      have q0 := hrow'.cell 0
      have q1 := hrow'.cell 1
      have q2 := hrow'.cell 2
      have q3 := hrow'.cell 3
      have q4 := hrow'.cell 4
      have q5 := hrow'.cell 5
      simp only [List.getElem?_toArray, List.getElem?_cons_zero, List.getElem?_cons_succ] at q0 q1 q2 q3 q4 q5
      clear hrow'
      go_wp2
      exact bodyPost_ret (v := .tuple #[cmdV y0 y1 y2 y3 y4 y5, .nilIface]) (by simp [results, Tryz.results8, go_sem, cmdV, q0, q1, q2, q3, q4, q5]) rfl ⟨Hbe2.out, .inl ⟨Hok.out, by rw [Y0.out, Y1.out, Y2.out, Y3.out, Y4.out, Y5.out]⟩⟩
end Go.Proofs.YtdkpbobglogmoaaGreat
namespace Go.Proofs.YtdkpbobglogmoaaGreat
open Go.RowKit Go.WideShapes
theorem splice_far (bs ds : List Int) (q p L : Nat) (hq : q + ds.length ≤ bs.length) (h : p + L ≤ q ∨ q + ds.length ≤ p) : ((splice bs q ds).drop p).take L = (bs.drop p).take L := by
  apply List.ext_getElem?
  intro i
  unfold splice
  simp only [List.getElem?_take, List.getElem?_drop, List.getElem?_append, List.length_take, Nat.min_eq_left (show q ≤ bs.length by omega)]
  by_cases hi : i < L
  · rw [if_pos hi, if_pos hi]
    rcases h with h | h
    · rw [if_pos (by omega), if_pos (by omega)]
    · rw [if_neg (by omega), if_neg (by omega)]; congr 1; omega
  · rw [if_neg hi, if_neg hi]
theorem splice_near (bs ds : List Int) (p : Nat) (h : p + ds.length ≤ bs.length) : ((splice bs p ds).drop p).take ds.length = ds := by
  unfold splice
  have e : (bs.take p).length = p := by simp; omega
  rw [List.drop_append_of_le_length (by omega), List.drop_of_length_le (by omega)]
  simp
theorem cmdFld_in : ∀ k, k < 6 → (cmdFld k).p + (cmdFld k).L ≤ 40 :=
  six (P := fun k => (cmdFld k).p + (cmdFld k).L ≤ 40) (by simp [cmdFld]) (by simp [cmdFld]) (by simp [cmdFld]) (by simp [cmdFld]) (by simp [cmdFld]) (by simp [cmdFld])
theorem cmdFld_apart (j k : Nat) (hjk : j < k) (hk : k < 6) : (cmdFld j).p + (cmdFld j).L ≤ (cmdFld k).p := by
  rcases (by omega : k = 1 ∨ k = 2 ∨ k = 3 ∨ k = 4 ∨ k = 5) with rfl | rfl | rfl | rfl | rfl
  · obtain rfl : j = 0 := by omega
    simp [cmdFld]
  · rcases (by omega : j = 0 ∨ j = 1) with rfl | rfl <;> simp [cmdFld]
  · rcases (by omega : j = 0 ∨ j = 1 ∨ j = 2) with rfl | rfl | rfl <;> simp [cmdFld]
  · rcases (by omega : j = 0 ∨ j = 1 ∨ j = 2 ∨ j = 3) with rfl | rfl | rfl | rfl <;> simp [cmdFld]
  · rcases (by omega : j = 0 ∨ j = 1 ∨ j = 2 ∨ j = 3 ∨ j = 4) with rfl | rfl | rfl | rfl | rfl <;> simp [cmdFld]
theorem bytesAfter_byte (n : Nat) (F : Nat → Fld) (X : Nat → Int) : ∀ m, ∀ x ∈ bytesAfter n F X m, 0 ≤ x ∧ x ≤ 255
  | 0, x, h => by
    have := List.eq_of_mem_replicate h
    subst this; omega
  | m + 1, x, h => by
    rcases mem_splice h with h | h
    · exact bytesAfter_byte n F X m x h
    · exact leDig_byte _ _ x h
theorem cmd_len (X : Nat → Int) (k : Nat) (hk : k ≤ 6) : (bytesAfter 64 cmdFld X k).length = 64 :=
  bytesAfter_length 64 cmdFld X 6 (fun k hk => by have := cmdFld_in k hk; omega) k hk
theorem cmd_part (X : Nat → Int) : ∀ m, m ≤ 6 → ∀ k, k < m → ((bytesAfter 64 cmdFld X m).drop (cmdFld k).p).take (cmdFld k).L = leDig (cmdFld k).L (X k)
  | 0, _, k, hk => by omega
  | m + 1, hm, k, hk => by
    have hl := cmd_len X m (by omega)
    have hin := cmdFld_in m (by omega)
    simp only [bytesAfter]
    by_cases e : k = m
    · subst e
      have := splice_near (bytesAfter 64 cmdFld X k) (leDig (cmdFld k).L (X k)) (cmdFld k).p (by rw [leDig_length, hl]; omega)
      rw [leDig_length] at this
      exact this
    · rw [splice_far _ _ _ _ _ (by rw [leDig_length, hl]; omega) (.inl (cmdFld_apart k m (by omega) (by omega)))]
      exact cmd_part X m (by omega) k (by omega)
theorem fits_lt (L : Nat) (x : Int) (hL : L = 1 ∨ L = 2 ∨ L = 4 ∨ L = 8) (h : fits L x = true) : 0 ≤ x ∧ x < 256 ^ L ∧ x ≤ 4611686018427387904 := by
  unfold fits limOf at h
  rcases hL with rfl | rfl | rfl | rfl
  all_goals simp at h
  all_goals refine ⟨by omega, ?_, by omega⟩
  · have : (256 : Int) ^ 1 = 256 := rfl; omega
  · have : (256 : Int) ^ 2 = 65536 := rfl; omega
  · have : (256 : Int) ^ 4 = 4294967296 := rfl; omega
  · have : (256 : Int) ^ 8 = 18446744073709551616 := rfl; omega
theorem cmdFld_long : ∀ k, k < 6 → (cmdFld k).L = 1 ∨ (cmdFld k).L = 2 ∨ (cmdFld k).L = 4 ∨ (cmdFld k).L = 8 :=
  six (P := fun k => (cmdFld k).L = 1 ∨ (cmdFld k).L = 2 ∨ (cmdFld k).L = 4 ∨ (cmdFld k).L = 8) (by simp [cmdFld]) (by simp [cmdFld]) (by simp [cmdFld]) (by simp [cmdFld]) (by simp [cmdFld]) (by simp [cmdFld])
structure Says (bs : List Int) (X : Nat → Int) : Prop where
  len : bs.length = 64
  byte : ∀ x ∈ bs, 0 ≤ x ∧ x ≤ 255
  num : ∀ k, k < 6 → cmdAt bs k = X k
  small : ∀ k, k < 6 → X k ≤ 4611686018427387904
theorem Says.ok {bs : List Int} {X : Nat → Int} (h : Says bs X) : cmdOk bs 6 := fun k hk => by rw [h.num k hk]; exact h.small k hk
theorem says_written (X : Nat → Int) (h : allFit cmdFld X 6) : Says (bytesAfter 64 cmdFld X 6) X := by
  refine ⟨cmd_len X 6 (by omega), bytesAfter_byte 64 cmdFld X 6, fun k hk => ?_, fun k hk => (fits_lt _ _ (cmdFld_long k hk) (h k hk)).2.2⟩
  obtain ⟨h0, h1, _⟩ := fits_lt _ _ (cmdFld_long k hk) (h k hk)
  unfold cmdAt
  rw [cmd_part X 6 (by omega) k hk, leNum_dig _ _ h0 h1]
end Go.Proofs.YtdkpbobglogmoaaGreat
