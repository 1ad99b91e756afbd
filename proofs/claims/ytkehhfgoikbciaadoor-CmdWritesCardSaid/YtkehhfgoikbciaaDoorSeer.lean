/- Contracts of ring.Seer: NewSeer, Take. -/
import Derived.Test.YtkehhfgoikbciaaDoorPost
import Derived.Test.YtkehhfgoikbciaaDoorBase2
namespace Go.Proofs.YtkehhfgoikbciaaDoor
open Go.RowKit
set_option linter.unusedVariables false

/-- is the phase down in the round of the T-th take? -/
def seerDown (n T : Nat) : Bool := decide (T / n % 2 = 1)
/-- a seer that took T in all -/
def seerCells (n T : Nat) : Array Value := #[.int .i64 n, .int .i64 (T % n : Nat), .bool (seerDown n T)]
/-- how many it takes now (at most 'fuel') of these phases -/
def seerCount (n : Nat) (ph : List Bool) (T : Nat) : Nat → Nat
  | 0 => 0
  | f + 1 => if ph.getD (T % n) false = seerDown n T then 0 else seerCount n ph (T + 1) f + 1
/-- the slots from the T-th on -/
def seerList (n T k : Nat) : List Int := (List.range k).map fun i => (((T + i) % n : Nat) : Int)
theorem seerCount_le (n : Nat) (ph : List Bool) : ∀ (f T : Nat), seerCount n ph T f ≤ f
  | 0, T => Nat.le_refl _
  | f + 1, T => by unfold seerCount; split; · omega
                   · have := seerCount_le n ph f (T + 1); omega
theorem seerList_length (n T k : Nat) : (seerList n T k).length = k := by simp [seerList]
theorem seerList_succ (n T k : Nat) : seerList n T (k + 1) = seerList n T k ++ [(((T + k) % n : Nat) : Int)] := by simp [seerList, List.range_succ]
theorem seerDown_step (n T : Nat) (h : 0 < n) : seerDown n (T + 1) = if T % n + 1 = n then !seerDown n T else seerDown n T := by
  unfold seerDown
  have e := Nat.div_add_mod T n
  have m := Nat.mod_lt T h
  split
  · rename_i h1
    have : (T + 1) / n = T / n + 1 := by
      have : T + 1 = n * (T / n + 1) := by rw [Nat.mul_add]; omega
      rw [this, Nat.mul_div_cancel_left _ h]
    rw [this]
    rcases Nat.mod_two_eq_zero_or_one (T / n) with q | q
    · simp [q]; omega
    · simp [q]; omega
  · rename_i h1
    have : (T + 1) / n = T / n := by
      have : T + 1 = (T % n + 1) + n * (T / n) := by omega
      rw [this, Nat.add_mul_div_left _ _ h, Nat.div_eq_of_lt (by omega)]; omega
    rw [this]
theorem mod_step (n T : Nat) (h : 0 < n) : (T + 1) % n = if T % n + 1 = n then 0 else T % n + 1 := by
  have e := Nat.div_add_mod T n
  have m := Nat.mod_lt T h
  split
  · have : T + 1 = n * (T / n + 1) := by rw [Nat.mul_add]; omega
    rw [this, Nat.mul_mod_right]
  · have : T + 1 = (T % n + 1) + n * (T / n) := by omega
    rw [this, Nat.add_mul_mod_self_left, Nat.mod_eq_of_lt (by omega)]

theorem seer_new_bad (n : Int) (w : World) (h : n < 2 ∨ 16 < n) :
    Calls Tryd.prog 17 #[.int .i64 n] w fun e w' => e = .returned (.tuple #[.pointer none, ringErr 1]) ∧ w = w' := by
  have hb : (decide (2 ≤ n) && decide (n ≤ 16)) = false := by simp; omega
  have Hb := Lib.hid hb
  clear hb h
  go_enter Tryd.func17, Tryd.ntmps17
  go_wp2_with fail
  refine (fits_any n _).mono ?_
  rw [Hb.out]
  rintro e w' ⟨rfl, rfl⟩
  go_wp2
  go_ret2
  exact ⟨rfl, rfl⟩

theorem seer_new_ok (n : Nat) (w : World) (h2 : 2 ≤ n) (h16 : n ≤ 16) :
    Calls Tryd.prog 17 #[.int .i64 n] w fun e w' => e = .returned (.tuple #[.pointer (some ⟨w.heap.size, 0, none⟩), .nilIface]) ∧
      Blk w' w.heap.size (seerCells n 0) 138 ∧ Below w.heap.size w w' := by
  have hb : (decide (2 ≤ (n : Int)) && decide ((n : Int) ≤ 16)) = true := by simp; omega
  have Hb := Lib.hid hb
  clear hb
  go_enter Tryd.func17, Tryd.ntmps17
  go_wp2_with fail
  refine (fits_any n _).mono ?_
  rw [Hb.out]
  rintro e w' ⟨rfl, rfl⟩
  go_wp2
  go_ret2
  refine ⟨rfl, (Blk.new _ _ _).of ?_, (Below.refl _ _).alloc (Nat.le_refl _) _⟩
  simp [seerCells, seerDown]

theorem seer_take_bad (b : Nat) (n T : Nat) (a : Option Addr) (l c : Nat) (w : World) (hb : Blk w b (seerCells n T) 138) (hn : n ≤ 16) (hl : l ≤ 9223372036854775807) (h : l ≠ n) :
    Calls Tryd.prog 19 #[.pointer (some ⟨b, 0, none⟩), .slice a l c] w fun e w' => e = .returned (.tuple #[.slice none 0 0, ringErr 2]) ∧ w = w' := by
  have c0 : w.cell? ⟨b, 0, none⟩ = some (.int .i64 n) := hb.cell 0
  have hne : ((l : Int) == (n : Int)) = false := by simp; omega
  clear hb
  go_enter Tryd.func19, Tryd.ntmps19
  go_wp2
  go_ret2
  exact ⟨rfl, rfl⟩

def sliceLen : Value → Nat
  | .slice _ n _ => n
  | _ => 0
theorem ownsRow_form {w : World} {base : Nat} {e : TypeId} {size : Nat} {v : Value} {n : Nat} {xs : List Value} (h : w.ownsRow base e size v n xs) : ∃ p c, v = .slice p n c := by
  obtain ⟨_, ⟨rfl, rfl⟩ | ⟨g, cap, cur, rfl, _⟩⟩ := h
  · exact ⟨none, 0, rfl⟩
  · exact ⟨_, _, rfl⟩
theorem ownsRow_drewN {w : World} {base : Nat} {e : TypeId} {size : Nat} {v : Value} {n : Nat} {xs : List Value} (h : w.ownsRow base e size v n xs) (k : Nat) : (w.drewN k).ownsRow base e size v n xs := h
/-- what the loop holds behind j slots -/
structure SeerInv (w : World) (b n T F : Nat) (ph : List Bool) (j : Nat) (v : Value) (wr : World) : Prop where
  le : j ≤ n - 1
  cnt : seerCount n ph T (n - 1) = j + seerCount n ph (T + j) (n - 1 - j)
  own : wr.ownsRow w.heap.size 3 1 v j ((seerList n T j).map (Value.int .i64))
  blk : Blk wr b (seerCells n (T + j)) 138
  keep : Keep (· = b) w wr

set_option maxRecDepth 100000 in
set_option maxHeartbeats 2000000 in
theorem seer_take_ok (b : Nat) (n T : Nat) (pb po pc : Nat) (ph : List Bool) (w : World) (hb : Blk w b (seerCells n T) 138) (h2 : 2 ≤ n) (hn : n ≤ 16) (hpb : pb ≠ b) (hlt : pb < w.heap.size)
    (hc : ∀ i, i < n → w.cell? ⟨pb, po + i, none⟩ = some (.bool (ph.getD i false))) :
    Calls Tryd.prog 19 #[.pointer (some ⟨b, 0, none⟩), .slice (some ⟨pb, po, none⟩) n pc] w fun e w' => ∃ v, e = .returned (.tuple #[v, .nilIface]) ∧
      SeerInv w b n T 0 ph (seerCount n ph T (n - 1)) v w' := by
  have c0 : w.cell? ⟨b, 0, none⟩ = some (.int .i64 n) := hb.cell 0
  obtain ⟨i0, hi, hz0, hz1, hz2⟩ := info_parts (P := Tryd.prog) (e := 3) (z := .int .i64 0) (size := 1) (bytes := 8) (by kernel_rfl)
  have Hi := Lib.hid hi
  have Hz0 := Lib.hid hz0
  have Hz1 := Lib.hid hz1
  have Hz2 := Lib.hid hz2
  have start : SeerInv w b n T 0 ph 0 (.slice none 0 0) w := ⟨by omega, by simp, by simpa [seerList] using World.ownsRow_nil w w.heap.size 3 1, by simpa using hb, Keep.refl _ _⟩
  have Hs := Lib.hid start
  have Hc := Lib.hid hc
  have hblt := hb.lt
  clear hb hc hi hz0 hz1 hz2 start
  go_enter Tryd.func19, Tryd.ntmps19
  go_wp2
  go_loopw [6] (fun v wr => ∃ j : Nat, SeerInv w b n T 0 ph j v wr) (fun v wr => n - (sliceLen v))
  case atStart => exact ⟨0, Hs.out⟩
  case round =>
    obtain ⟨j, hj⟩ := hrel
    have hm := Nat.mod_lt (T + j) (show 0 < n by omega)
    have c1 : wr.cell? ⟨b, 1, none⟩ = some (.int .i64 ((T + j) % n : Nat)) := hj.blk.cell 1
    have c2 : wr.cell? ⟨b, 2, none⟩ = some (.bool (seerDown n (T + j))) := hj.blk.cell 2
    have c0 : wr.cell? ⟨b, 0, none⟩ = some (.int .i64 n) := hj.blk.cell 0
    have c3 : wr.cell? ⟨pb, po + (T + j) % n, none⟩ = some (.bool (ph.getD ((T + j) % n) false)) := by
      rw [hj.keep.cell (p := ⟨pb, po + (T + j) % n, none⟩) hlt hpb]; exact Hc.out _ hm
    have f1 := hj.blk.free 1
    have f2 := hj.blk.free 2
    have hwl := hj.blk.lt
    have hle := hj.le
    obtain ⟨p, c, hv⟩ := ownsRow_form hj.own
    subst hv
    have hcnt := hj.cnt
    have hstep : ∀ f, seerCount n ph (T + j) (f + 1) = if ph.getD ((T + j) % n) false = seerDown n (T + j) then 0 else seerCount n ph (T + j + 1) f + 1 := fun f => rfl
    have hd := seerDown_step n (T + j) (by omega)
    have hx := mod_step n (T + j) (by omega)
    have hls := seerList_succ n T j
    have Hj := Lib.hid hj
    have Hcnt := Lib.hid hcnt
    have Hstep := Lib.hid hstep
    have Hd := Lib.hid hd
    have Hx := Lib.hid hx
    have Hls := Lib.hid hls
    clear hj hcnt hstep hd hx hls
    have hfin : ¬ (j < n - 1 ∧ ph.getD ((T + j) % n) false ≠ seerDown n (T + j)) → seerCount n ph T (n - 1) = j := by
      intro h
      rw [Hcnt.out]
      by_cases q : j < n - 1
      · obtain ⟨f, hf⟩ : ∃ f, n - 1 - j = f + 1 := ⟨n - 1 - j - 1, by omega⟩
        rw [hf, Hstep.out, if_pos (Decidable.byContradiction fun e => h ⟨q, e⟩)]; omega
      · rw [show n - 1 - j = 0 by omega]; rfl
    have Hfin := Lib.hid hfin
    clear hfin
    generalize hxx : (T + j) % n = x at c1 c3 hm Hfin Hls Hd Hx Hstep
    generalize hdd : seerDown n (T + j) = dn at c2 Hfin Hd Hstep
    generalize hpp : ph.getD x false = px at c3 Hfin Hstep
    have Hxx := Lib.hid hxx
    have Hdd := Lib.hid hdd
    clear hxx hdd hpp
    by_cases h1 : j < n - 1
    · have h1' : (j : Int) < (n : Int) - 1 := by omega
      by_cases h3 : px = dn
      · subst h3
        go_wp2
        go_quiet (fail)
        go_wp2
        go_ret2
        exact ⟨_, rfl, by rw [Hfin.out (fun h => h.2 rfl)]; exact ⟨Hj.out.le, Hj.out.cnt, Hj.out.own, Hj.out.blk, Hj.out.keep.drewN _⟩⟩
      · have h3' : (px == dn) = false := by simpa using h3
        go_wp2
        go_quiet (fail)
        have ho0 : (wr.drewN nq).ownsRow w.heap.size 3 1 (.slice p j c) j ((seerList n T j).map (Value.int .i64)) := Hj.out.own
        have hk0 : Keep (· = b) w (wr.drewN nq) := Hj.out.keep.drewN _
        have hb0 : Blk (wr.drewN nq) b (seerCells n (T + j)) 138 := Hj.out.blk
        have hwl' : b < (wr.drewN nq).heap.size := hb0.lt
        have c1' : (wr.drewN nq).cell? ⟨b, 1, none⟩ = some (.int .i64 x) := c1
        clear c0 c1 c2 c3 f1 f2 hwl
        generalize hW : wr.drewN nq = W at ho0 hk0 hb0 hwl' c1' ⊢
        clear hW
        have Ho := Lib.hid ho0
        have Hk := Lib.hid hk0
        have Hb := Lib.hid hb0
        clear ho0 hk0 hb0
        go_wp2_with (at_builtin; refine wpList_append_own _ rfl _ _ 30 rfl w.heap.size 3 i0 (.int .i64 0) 1 8 Tryd.underlying30 Hi.out Hz0.out Hz1.out Hz2.out rfl (by decide) _ _ _ rfl (Ho.out.alloc _) ⟨W.heap.size, 0, none⟩ 1 1 [.int .i64 x] rfl rfl ?c1 ?c2 ?c3 ?c4 ?c5 ?_)
        case c1 => exact one_news _ _ _ _ rfl
        case c2 => intro u hu; simp at hu; subst hu; rfl
        case c3 => unfold maxLen; omega
        case c4 => omega
        case c5 => have := Hk.out.size; simp; omega
        intro v' w1 hown' hgrow _
        have hvl : sliceLen v' = j + 1 := by obtain ⟨p', c', rfl⟩ := ownsRow_form hown'; rfl
        have Hvl := Lib.hid hvl
        clear hvl
        have hrow : ∀ k, (Value.slice p j c).ownBlock = some k → w.heap.size ≤ k := fun k hk => (Ho.out.lt k hk).1
        have hk1 : Keep (· = b) w w1 := (Hk.out.alloc _).grown hgrow (fun k hk => .inr (hrow k hk))
        have hb1 : Blk w1 b (seerCells n (T + j)) 138 := (Hb.out.alloc _).grown hgrow (fun k hk => by have := hrow k hk; omega)
        have d0 : w1.cell? ⟨b, 0, none⟩ = some (.int .i64 n) := hb1.cell 0
        have d1 : w1.cell? ⟨b, 1, none⟩ = some (.int .i64 x) := by rw [hb1.cell 1, ← Hxx.out]; rfl
        have d2 : w1.cell? ⟨b, 2, none⟩ = some (.bool dn) := by rw [hb1.cell 2, ← Hdd.out]; rfl
        have g1 := hb1.free 1
        have g2 := hb1.free 2
        have hl1 := hb1.lt
        have Hown := Lib.hid hown'
        have Hk1 := Lib.hid hk1
        have Hb1 := Lib.hid hb1
        clear hown' hgrow hk1 hb1 hrow c1' hwl' Ho Hk Hb
        by_cases hx1 : x + 1 = n
        · have hx2 : (((x : Int) + 1) == (n : Int)) = true := by simp; omega
          have Hx1 := Lib.hid hx1
          clear hx1
          go_wp2
          go_quiet (fail)
          go_wp2
          go_roundw
          case rel =>
            have hb1 := Hb1.out
            have hk1 := Hk1.out
            have hown := Hown.out
            rw [show List.map (Value.int IntKind.i64) (seerList n T j) ++ [Value.int .i64 (x : Int)] = (seerList n T (j + 1)).map (Value.int .i64) by rw [Hls.out]; simp] at hown
            refine ⟨j + 1, by omega, ?_, ?_, Blk.of (by (repeat (first | with_reducible assumption | with_reducible apply Blk.drew | with_reducible apply Blk.drewN | with_reducible apply Blk.alloc | with_reducible apply Blk.set | (with_reducible refine Blk.setOther ?_ (by simp; omega) _)))) ?_, by (repeat (first | with_reducible exact hk1 | with_reducible apply Keep.drew | with_reducible apply Keep.drewN | (with_reducible refine Keep.setCell ?_ (by left; rfl) _)))⟩
            · rw [Hcnt.out]
              obtain ⟨f, hf⟩ : ∃ f, n - 1 - j = f + 1 := ⟨n - 1 - j - 1, by omega⟩
              rw [hf, Hstep.out, if_neg h3, show n - 1 - (j + 1) = f by omega]
              rw [show T + (j + 1) = T + j + 1 by omega]; omega
            · repeat (first | with_reducible exact hown | with_reducible apply ownsRow_drewN | (with_reducible refine ownsRow_setCell_below ?_ (by simpa using hblt) _))
            · unfold seerCells
              rw [show T + (j + 1) = T + j + 1 by omega, Hx.out, Hd.out, Hdd.out, Hxx.out, if_pos Hx1.out, if_pos Hx1.out]
              simp
          case measure =>
            show n - sliceLen v' < n - j
            rw [Hvl.out]; omega
        · have hx2 : (((x : Int) + 1) == (n : Int)) = false := by simp; omega
          have Hx1 := Lib.hid hx1
          clear hx1
          go_wp2
          go_quiet (fail)
          go_wp2
          go_roundw
          case rel =>
            have hb1 := Hb1.out
            have hk1 := Hk1.out
            have hown := Hown.out
            rw [show List.map (Value.int IntKind.i64) (seerList n T j) ++ [Value.int .i64 (x : Int)] = (seerList n T (j + 1)).map (Value.int .i64) by rw [Hls.out]; simp] at hown
            refine ⟨j + 1, by omega, ?_, ?_, Blk.of (by (repeat (first | with_reducible assumption | with_reducible apply Blk.drew | with_reducible apply Blk.drewN | with_reducible apply Blk.alloc | with_reducible apply Blk.set | (with_reducible refine Blk.setOther ?_ (by simp; omega) _)))) ?_, by (repeat (first | with_reducible exact hk1 | with_reducible apply Keep.drew | with_reducible apply Keep.drewN | (with_reducible refine Keep.setCell ?_ (by left; rfl) _)))⟩
            · rw [Hcnt.out]
              obtain ⟨f, hf⟩ : ∃ f, n - 1 - j = f + 1 := ⟨n - 1 - j - 1, by omega⟩
              rw [hf, Hstep.out, if_neg h3, show n - 1 - (j + 1) = f by omega]
              rw [show T + (j + 1) = T + j + 1 by omega]; omega
            · repeat (first | with_reducible exact hown | with_reducible apply ownsRow_drewN | (with_reducible refine ownsRow_setCell_below ?_ (by simpa using hblt) _))
            · unfold seerCells
              rw [show T + (j + 1) = T + j + 1 by omega, Hx.out, Hd.out, Hdd.out, Hxx.out, if_neg Hx1.out, if_neg Hx1.out]
              simp
          case measure =>
            show n - sliceLen v' < n - j
            rw [Hvl.out]; omega
    · have h1' : decide ((j : Int) < (n : Int) - 1) = false := by simp; omega
      go_wp2
      go_quiet (fail)
      go_wp2
      go_ret2
      exact ⟨_, rfl, by rw [Hfin.out (fun h => h1 h.1)]; exact ⟨Hj.out.le, Hj.out.cnt, Hj.out.own, Hj.out.blk, Hj.out.keep.drewN _⟩⟩
end Go.Proofs.YtkehhfgoikbciaaDoor
