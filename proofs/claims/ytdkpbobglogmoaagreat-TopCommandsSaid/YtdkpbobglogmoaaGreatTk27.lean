/- Parts of the proof of TopCommandsProof: Chain Build BuildAny. -/
import Derived.Test.YtdkpbobglogmoaaGreatProg
import Derived.WalkSpells
import Derived.Deep.AppendLies
import Derived.Deep.RegionLaw
import Derived.IntWalk
import Derived.Laws.OwnMore
import Derived.Deep.DeepCutAuto
import Derived.BigQuiet
import Derived.Test.YtdkpbobglogmoaaGreatTk14
import Derived.Test.YtdkpbobglogmoaaGreatTk25
import Derived.Test.YtdkpbobglogmoaaGreatTk26
set_option linter.unusedVariables false
set_option linter.unusedSimpArgs false
set_option maxRecDepth 100000
set_option maxHeartbeats 32000000
namespace Go.Proofs.YtdkpbobglogmoaaGreat
open Go.RowKit Go.WideShapes
inductive Chain : Int → List Int → List Int → Prop
  | short (at_ : Int) (pages : List Int) (h : pages.length ≤ 8) : Chain at_ pages pages
  | long (at_ : Int) (pages rest : List Int) (h : 8 < pages.length) (hr : Chain (IntKind.i64.wrap (at_ + 64)) (pages.drop 7) rest) : Chain at_ pages (pages.take 7 ++ IntKind.i64.wrap (at_ + 64) :: rest)
theorem Chain.pos {at_ : Int} {pages nums : List Int} (h : Chain at_ pages nums) : 0 < pages.length → 0 < nums.length := by
  cases h with
  | short => exact id
  | long rest h hr => intro _; simp; omega
theorem Chain.most {at_ : Int} {pages nums : List Int} (h : Chain at_ pages nums) : nums.length ≤ 2 * pages.length := by
  induction h with
  | short => omega
  | long at_ pages rest h hr ih => simp only [List.length_drop, List.length_append, List.length_take, List.length_cons] at ih ⊢; omega
theorem chainFrom_short (pages : List Int) (at_ : Int) (h64 : at_ % 64 = 0) (h : pages.length ≤ 8) : chainFrom at_ pages = pages := by
  have k0 : ¬ at_ % 64 = 56 := by omega
  have k1 : ¬ (at_ + 8) % 64 = 56 := by omega
  have k2 : ¬ (at_ + 8 + 8) % 64 = 56 := by omega
  have k3 : ¬ (at_ + 8 + 8 + 8) % 64 = 56 := by omega
  have k4 : ¬ (at_ + 8 + 8 + 8 + 8) % 64 = 56 := by omega
  have k5 : ¬ (at_ + 8 + 8 + 8 + 8 + 8) % 64 = 56 := by omega
  have k6 : ¬ (at_ + 8 + 8 + 8 + 8 + 8 + 8) % 64 = 56 := by omega
  match pages, h with
  | [], _ => rfl
  | [_], _ => rfl
  | [_, _], _ => simp only [chainFrom, k0, if_false]
  | [_, _, _], _ => simp only [chainFrom, k0, k1, if_false]
  | [_, _, _, _], _ => simp only [chainFrom, k0, k1, k2, if_false]
  | [_, _, _, _, _], _ => simp only [chainFrom, k0, k1, k2, k3, if_false]
  | [_, _, _, _, _, _], _ => simp only [chainFrom, k0, k1, k2, k3, k4, if_false]
  | [_, _, _, _, _, _, _], _ => simp only [chainFrom, k0, k1, k2, k3, k4, k5, if_false]
  | [_, _, _, _, _, _, _, _], _ => simp only [chainFrom, k0, k1, k2, k3, k4, k5, k6, if_false]
  | _ :: _ :: _ :: _ :: _ :: _ :: _ :: _ :: _ :: _, h => simp at h
theorem chainFrom_long (pages : List Int) (at_ : Int) (h64 : at_ % 64 = 0) (h : 8 < pages.length) : chainFrom at_ pages = pages.take 7 ++ (at_ + 64) :: chainFrom (at_ + 64) (pages.drop 7) := by
  have k0 : ¬ at_ % 64 = 56 := by omega
  have k1 : ¬ (at_ + 8) % 64 = 56 := by omega
  have k2 : ¬ (at_ + 8 + 8) % 64 = 56 := by omega
  have k3 : ¬ (at_ + 8 + 8 + 8) % 64 = 56 := by omega
  have k4 : ¬ (at_ + 8 + 8 + 8 + 8) % 64 = 56 := by omega
  have k5 : ¬ (at_ + 8 + 8 + 8 + 8 + 8) % 64 = 56 := by omega
  have k6 : ¬ (at_ + 8 + 8 + 8 + 8 + 8 + 8) % 64 = 56 := by omega
  have k7 : (at_ + 8 + 8 + 8 + 8 + 8 + 8 + 8) % 64 = 56 := by omega
  have k8 : ¬ (at_ + 64) % 64 = 56 := by omega
  match pages, h with
  | p0 :: p1 :: p2 :: p3 :: p4 :: p5 :: p6 :: p7 :: p8 :: t, _ =>
    simp only [chainFrom, k0, k1, k2, k3, k4, k5, k6, k7, k8, if_false, if_true, List.take_succ_cons, List.take_zero, List.drop_succ_cons, List.drop_zero, List.cons_append, List.nil_append]
    rw [show at_ + 8 + 8 + 8 + 8 + 8 + 8 + 8 + 8 = at_ + 64 by omega, show at_ + 8 + 8 + 8 + 8 + 8 + 8 + 8 + 16 = at_ + 64 + 8 by omega]
theorem Chain.from_ {at_ : Int} {pages nums : List Int} (h : Chain at_ pages nums) : at_ % 64 = 0 → 0 ≤ at_ → at_ + 64 * pages.length ≤ 4611686018427387904 → nums = chainFrom at_ pages := by
  induction h with
  | short at_ pages h => intro h64 _ _; rw [chainFrom_short pages at_ h64 h]
  | long at_ pages rest h hr ih =>
    intro h64 h0 h1
    have e : IntKind.i64.wrap (at_ + 64) = at_ + 64 := IntWalk.i64_in _ (by omega)
    rw [e] at ih ⊢
    rw [chainFrom_long pages at_ h64 h, ih (by omega) (by omega) (by rw [List.length_drop]; omega)]
theorem news_one (W : World) (g : Nat) (v : Value) (hc : W.cell? ⟨g, 0, none⟩ = some v) : ∀ j u, [v][j]? = some u → W.cell? ((⟨g, 0, none⟩ : Addr).add j) = some u := by
  intro j u hj
  match j, hj with
  | 0, hj => simp at hj; subst hj; simpa [Addr.add] using hc
theorem news_nums (W : World) (g off : Nat) (nums : List Int) (hc : ∀ i, i < nums.length → W.cell? ⟨g, off + i, none⟩ = some (.int .i64 (nums.getD i 0))) : ∀ j u, (nums.map (Value.int .i64))[j]? = some u → W.cell? ((⟨g, off, none⟩ : Addr).add j) = some u := by
  intro j u hj
  have hjl : j < nums.length := by have := (List.getElem?_eq_some_iff.1 hj).1; simpa using this
  rw [WideShapes.add_plain, hc j hjl, ← hj]
  simp [List.getD, hjl]
def ChainEnd (at_ : Int) (pages : List Int) (b : Nat) (w : World) (e : Ending) (w' : World) : Prop :=
  ∃ nums gb off c', Chain at_ pages nums ∧ e = .returned (.slice (some ⟨gb, off, none⟩) nums.length c') ∧ Below w.heap.size w w' ∧ nums.length ≤ c' ∧ (gb = b ∨ w.heap.size ≤ gb) ∧ gb < w'.heap.size ∧
    ∀ i, i < nums.length → w'.cell? ⟨gb, off + i, none⟩ = some (.int .i64 (nums.getD i 0))
theorem chain_finish (at_ at2 : Int) (b g cap : Nat) (pages nums : List Int) (xs7 : List Value) (w w' : World) (ha : IntKind.i64.wrap (at_ + 64) = at2) (h8 : 8 < pages.length) (hx : xs7 = (pages.take 7).map (Value.int .i64)) (hch : Chain at2 (pages.drop 7) nums)
    (hown : w'.ownsRow w.heap.size 3 1 (.slice (some ⟨g, 0, none⟩) (8 + nums.length) cap) (8 + nums.length) (xs7 ++ [.int .i64 at2] ++ nums.map (Value.int .i64))) (hb : Below w.heap.size w w') :
    ChainEnd at_ pages b w (.returned (.slice (some ⟨g, 0, none⟩) (8 + nums.length) cap)) w' := by
  subst ha hx
  have hl : (pages.take 7 ++ IntKind.i64.wrap (at_ + 64) :: nums).length = 8 + nums.length := by simp; omega
  have hcap : 8 + nums.length ≤ cap := by
    rcases hown.2 with ⟨h, _⟩ | ⟨g', cap', cur, h, _, _, h2, _⟩
    · cases h
    · cases h; exact h2
  refine ⟨pages.take 7 ++ IntKind.i64.wrap (at_ + 64) :: nums, g, 0, cap, .long _ _ _ h8 hch, by rw [hl], hb, by rw [hl]; exact hcap, .inr (World.ownsRow.lt hown g rfl).1, (World.ownsRow.lt hown g rfl).2, fun i hi => ?_⟩
  rw [hl] at hi
  rw [Nat.zero_add, hown.cellAt i (by omega)]
  have e : (pages.take 7).map (Value.int .i64) ++ [.int .i64 (IntKind.i64.wrap (at_ + 64))] ++ nums.map (Value.int .i64) = (pages.take 7 ++ IntKind.i64.wrap (at_ + 64) :: nums).map (Value.int .i64) := by simp
  rw [e, List.getElem?_map, List.getElem?_eq_getElem (by omega)]
  simp [List.getD, hl, hi]
theorem chain_any : ∀ (n : Nat) (at_ : Int) (b off c : Nat) (pages : List Int) (w : World), pages.length ≤ n → n ≤ 64 → pages.length ≤ c → b < w.heap.size → -9223372036854775808 ≤ at_ → at_ ≤ 9223372036854775807 →
    (∀ i, i < pages.length → w.cell? ⟨b, off + i, none⟩ = some (.int .i64 (pages.getD i 0))) →
    Calls Tryz.prog 14 #[.int .i64 at_, .slice (some ⟨b, off, none⟩) pages.length c] w (ChainEnd at_ pages b w) := by
  intro n
  induction n with
  | zero =>
    intro at_ b off c pages w hn h64 hc hb a0 a1 hcell
    have h8 : pages.length ≤ 8 := by omega
    have HC := Lib.hid hcell
    clear hcell
    go_enter Tryz.func14, Tryz.ntmps14
    go_wp2
    go_ret
    exact ⟨pages, b, off, c, .short _ _ h8, rfl, Below.refl _ _, hc, .inl rfl, hb, HC.out⟩
  | succ n ih =>
    intro at_ b off c pages w hn h64 hc hb a0 a1 hcell
    have HC := Lib.hid hcell
    clear hcell
    by_cases h8 : pages.length ≤ 8
    · clear ih
      go_enter Tryz.func14, Tryz.ntmps14
      go_wp2
      go_ret
      exact ⟨pages, b, off, c, .short _ _ h8, rfl, Below.refl _ _, hc, .inl rfl, hb, HC.out⟩
    · obtain ⟨i0, hi, hz0', hz1, hz2⟩ := info_parts (P := Tryz.prog) (e := 3) (z := .int .i64 0) (size := 1) (bytes := 8) (by kernel_rfl)
      have Hi := Lib.hid hi
      have Hz0 := Lib.hid hz0'
      have Hz1 := Lib.hid hz1
      have Hz2 := Lib.hid hz2
      clear hi hz0' hz1 hz2
      obtain ⟨at2, hat2⟩ : ∃ x, IntKind.i64.wrap (at_ + 64) = x := ⟨_, rfl⟩
      have hat2b : -9223372036854775808 ≤ at2 ∧ at2 ≤ 9223372036854775807 := by rw [← hat2, IntKind.wrap_i64]; omega
      have hdl : (pages.drop 7).length = pages.length - 7 := List.length_drop ..
      have HIH : Hid (∀ W, Below w.heap.size w W → Calls Tryz.prog 14 #[.int .i64 at2, .slice (some ⟨b, off + 7, none⟩) (pages.length - 7) (c - 7)] W (ChainEnd at2 (pages.drop 7) b W)) := fun W hW => by
        have := ih at2 b (off + 7) (c - 7) (pages.drop 7) W (by omega) (by omega) (by omega) (Nat.lt_of_lt_of_le hb hW.size) hat2b.1 hat2b.2 (fun i hi => by
          rw [hdl] at hi
          rw [hW.cell (p := ⟨b, off + 7 + i, none⟩) hb, Nat.add_assoc, HC.out (7 + i) (by omega)]
          simp [List.getD, List.getElem?_drop])
        rw [hdl] at this
        exact this
      obtain ⟨xs7, hxs7⟩ : ∃ xs7, xs7 = (pages.take 7).map (Value.int .i64) := ⟨_, rfl⟩
      have hx7 : xs7.length = 7 := by rw [hxs7]; simp; omega
      have HC7 : Hid (∀ W, Below w.heap.size w W → ∀ j u, xs7[j]? = some u → W.cell? ((⟨b, off, none⟩ : Addr).add j) = some u) := fun W hW j u hj => by
        have hjl : j < xs7.length := (List.getElem?_eq_some_iff.1 hj).1
        rw [WideShapes.add_plain, hW.cell (p := ⟨b, off + j, none⟩) hb, HC.out j (by omega), ← hj, hxs7]
        simp [List.getD, show j < 7 by omega, show j < pages.length by omega]
      have H71 : Hid (∀ u ∈ xs7, u.oneCell' = true) := fun u hu => by rw [hxs7] at hu; obtain ⟨x, _, rfl⟩ := List.mem_map.1 hu; rfl
      have HX7 := Lib.hid hxs7
      have HXl := Lib.hid (show xs7.length = 7 * 1 from hx7)
      have HA2 := Lib.hid hat2
      have HDl := Lib.hid hdl
      have hc7 : ¬ c = 7 := by omega
      have hb1 : 7 ≤ c := by omega
      have hb2 : 7 ≤ pages.length := by omega
      have hb3 : (7 : Int) ≤ (c : Int) := by omega
      have hb4 : (7 : Int) ≤ (pages.length : Int) := by omega
      have hb5 : ¬ (c : Int) < 7 := by omega
      have hb6 : ¬ (pages.length : Int) < 7 := by omega
      clear ih HC hxs7 hx7 hdl
      go_enter Tryz.func14, Tryz.ntmps14
      go_wp2
      go_region_law (first
        | (refine step_append_lies _ rfl (.const (.slice none 0 0)) (.tmp 10) 22 rfl w.heap.size 3 i0 (.int .i64 0) 1 8 Tryz.underlying22 Hi.out Hz0.out Hz1.out Hz2.out rfl (by decide) (.slice none 0 0) 0 [] rfl (World.ownsRow_nil _ _ _ _) ⟨b, off, none⟩ 7 c xs7 rfl HXl.out (HC7.out _ (by (repeat (first | with_reducible exact Below.refl _ _ | exact hbw20 | exact hbw11 | exact hbw15 | with_reducible apply Below.drew | (with_reducible refine Below.alloc ?_ (by first | (simp; done) | (simp; omega) | omega) _))))) H71.out (by decide) (by decide) (by decide) (by first | (simp; done) | (simp; omega) | omega) _ rfl ?_
           intro g11 cap11 w11 hown11 hgrow11 hat11 hlt11
           have hown11 : w11.ownsRow w.heap.size 3 1 (.slice (some ⟨g11, 0, none⟩) 7 cap11) 7 xs7 := hown11
           have hbw11 : Below w.heap.size w w11 := (show Below w.heap.size w _ by (repeat (first | with_reducible exact Below.refl _ _ | exact hbw20 | exact hbw11 | exact hbw15 | with_reducible apply Below.drew | (with_reducible refine Below.alloc ?_ (by first | (simp; done) | (simp; omega) | omega) _)))).grown hgrow11 (by first | (simp; done) | (simp; omega) | omega) (fun k hk => by cases hk)
           have hge11 := Nat.le_of_eq (hat11.resolve_left (by simp [Value.ownBlock])).symm
           have hs11 := hgrow11.size
           have hw11 := (World.ownsRow.lt hown11 g11 rfl).1
           clear hat11
           try simp at hge11
           try simp at hs11)
        | (refine step_append_lies _ rfl (.tmp 11) (.tmp 14) 22 rfl w.heap.size 3 i0 (.int .i64 0) 1 8 Tryz.underlying22 Hi.out Hz0.out Hz1.out Hz2.out rfl (by decide) (.slice (some ⟨g11, 0, none⟩) 7 cap11) 7 xs7 rfl (by (repeat (first | exact hown11 | with_reducible apply World.ownsRow.alloc | (with_reducible refine own_below ?_ hbel20)))) _ 1 1 [.int .i64 at2] rfl rfl (news_one _ _ _ (by (repeat (first | exact hcell20 _ (by assumption) | (simp; done) | (with_reducible refine Lib.cell?_alloc_some _ ?_) | (with_reducible refine World.grownBy.cell hgrow15 ?_ (by simp [Value.ownBlock]; omega)) | (with_reducible refine World.grownBy.cell hgrow11 ?_ (by simp [Value.ownBlock])) | (with_reducible refine below_cell_some hbel20 ?_))))) (by intro u hu; simp at hu; subst hu; rfl) (by decide) (by decide) (by decide) (by first | (simp; done) | (simp; omega) | omega) _ rfl ?_
           intro g15 cap15 w15 hown15 hgrow15 hat15 hlt15
           have hown15 : w15.ownsRow w.heap.size 3 1 (.slice (some ⟨g15, 0, none⟩) 8 cap15) 8 (xs7 ++ [.int .i64 at2]) := hown15
           have hbw15 : Below w.heap.size w w15 := (show Below w.heap.size w _ by (repeat (first | with_reducible exact Below.refl _ _ | exact hbw20 | exact hbw11 | exact hbw15 | with_reducible apply Below.drew | (with_reducible refine Below.alloc ?_ (by first | (simp; done) | (simp; omega) | omega) _)))).grown hgrow15 (by first | (simp; done) | (simp; omega) | omega) (fun k hk => (World.ownsRow.lt hown11 k hk).1)
           have hs15 := hgrow15.size
           clear hat15
           try simp at hs15)
        | (refine step_append_lies _ rfl (.tmp 15) (.tmp 20) 22 rfl w.heap.size 3 i0 (.int .i64 0) 1 8 Tryz.underlying22 Hi.out Hz0.out Hz1.out Hz2.out rfl (by decide) (.slice (some ⟨g15, 0, none⟩) 8 cap15) 8 (xs7 ++ [.int .i64 at2]) rfl (by (repeat (first | exact hown15 | with_reducible apply World.ownsRow.alloc | (with_reducible refine own_below ?_ hbel20)))) _ nums.length cn (nums.map (Value.int .i64)) rfl (by simp) (news_nums _ _ _ _ (fun i hi => by (repeat (first | exact hcell20 _ (by assumption) | (simp; done) | (with_reducible refine Lib.cell?_alloc_some _ ?_) | (with_reducible refine World.grownBy.cell hgrow15 ?_ (by simp [Value.ownBlock]; omega)) | (with_reducible refine World.grownBy.cell hgrow11 ?_ (by simp [Value.ownBlock])) | (with_reducible refine below_cell_some hbel20 ?_))))) (by intro u hu; obtain ⟨x, _, rfl⟩ := List.mem_map.1 hu; rfl) hpos20 (by unfold maxLen; omega) (by omega) (by first | (simp; done) | (simp; omega) | omega) _ rfl ?_
           intro g21 cap21 w21 hown21 hgrow21 hat21 hlt21
           have hbw21 : Below w.heap.size w w21 := (show Below w.heap.size w _ by (repeat (first | with_reducible exact Below.refl _ _ | exact hbw20 | exact hbw11 | exact hbw15 | with_reducible apply Below.drew | (with_reducible refine Below.alloc ?_ (by first | (simp; done) | (simp; omega) | omega) _)))).grown hgrow21 (by first | (simp; done) | (simp; omega) | omega) (fun k hk => (World.ownsRow.lt hown15 k hk).1)
           clear hat21)
        | (go_simp
           refine (HIH.out _ (by (repeat (first | with_reducible exact Below.refl _ _ | exact hbw20 | exact hbw11 | exact hbw15 | with_reducible apply Below.drew | (with_reducible refine Below.alloc ?_ (by first | (simp; done) | (simp; omega) | omega) _))))).mono ?_
           rintro e w20 ⟨nums, gb, offn, cn, hch, rfl, hbel20, hcap20, hgb20, hlt20, hcell20⟩
           have hbw20 : Below w.heap.size w w20 := (show Below w.heap.size w _ by (repeat (first | with_reducible exact Below.refl _ _ | exact hbw20 | exact hbw11 | exact hbw15 | with_reducible apply Below.drew | (with_reducible refine Below.alloc ?_ (by first | (simp; done) | (simp; omega) | omega) _)))).trans (hbel20.mono (by first | (simp; done) | (simp; omega) | omega))
           have hs20 := hbel20.size
           have hpos20 := hch.pos (by have := HDl.out; omega)
           have hmost20 := hch.most
           rw [HDl.out] at hmost20
           try simp at hgb20
           try simp at hs20))
      all_goals
        have HE := Lib.hid (chain_finish at_ at2 b g21 cap21 pages nums xs7 w w21 HA2.out (by omega) HX7.out hch hown21 hbw21)
        clear hown21 hgrow21 hown15 hgrow15 hown11 hgrow11 hbw11 hbw15 hbw20 hbw21 hcell20 hch hbel20
        go_wp2
        go_ret
        exact HE.out
end Go.Proofs.YtdkpbobglogmoaaGreat
namespace Go.Proofs.YtdkpbobglogmoaaGreat
open Go.RowKit Go.WideShapes
def errV2 (k : Int) : Value := if k = 0 then .nilIface else .iface 54 (.int .i64 k)
def BuildEnd (B : Built) (b mb : Nat) (w : World) (e : Ending) (w' : World) : Prop :=
  e = .returned (.tuple #[.int .i64 B.u, .int .i64 B.v, errV2 B.e]) ∧ MemAt w' b mb B.bs ∧ Keep (· = mb) w w'
def NumsRd (w : World) (mb : Nat) (a : Option Addr) (c : Nat) (xs : List Int) : Prop :=
  xs.length ≤ c ∧ (xs.length = 0 ∨ ∃ nb off, a = some ⟨nb, off, none⟩ ∧ nb ≠ mb ∧ nb < w.heap.size ∧ ∀ i, i < xs.length → w.cell? ⟨nb, off + i, none⟩ = some (.int .i64 (xs.getD i 0)))
theorem NumsRd.keep {w w' : World} {mb : Nat} {a : Option Addr} {c : Nat} {xs : List Int} (h : NumsRd w mb a c xs) (hk : Keep (· = mb) w w') : NumsRd w' mb a c xs := by
  obtain ⟨h1, h2⟩ := h
  refine ⟨h1, h2.imp id ?_⟩
  rintro ⟨nb, off, e1, e2, e3, e4⟩
  exact ⟨nb, off, e1, e2, Nat.lt_of_lt_of_le e3 hk.size, fun i hi => (hk.cell (p := ⟨nb, off + i, none⟩) e3 e2).trans (e4 i hi)⟩
theorem Keep.ofBel {mb : Nat} {w w' : World} (h : Below w.heap.size w w') : Keep (· = mb) w w' := Keep.ofBelow h (fun q h1 h2 => absurd h1 (by omega))
theorem build_early (b mb : Nat) (bs : List Int) (at_ : Int) (a : Option Addr) (n c : Nat) (offset long : Int) (w : World) (hm : MemAt w b mb bs) (o0 : -9223372036854775808 ≤ offset) (o1 : offset ≤ 9223372036854775807) (l0 : -9223372036854775808 ≤ long) (l1 : long ≤ 9223372036854775807)
    (hn : n ≤ 9223372036854775807) (pages : List Int) (hp : pages.length = n) (h : long < 1 ∨ 2048 < long ∨ offset < 0 ∨ 60 < offset ∨ offset % 4 ≠ 0 ∨ (n : Int) ≠ (offset + long + 63) / 64) :
    Calls Tryz.prog 6 #[.pointer (some ⟨b, 0, none⟩), .int .i64 at_, .slice a n c, .int .i64 offset, .int .i64 long] w (BuildEnd (buildRes bs at_ pages offset long) b mb w) := by
  have HM := Lib.hid hm
  obtain ⟨R, hR⟩ : ∃ R, buildRes bs at_ pages offset long = R := ⟨_, rfl⟩
  rw [hR]
  unfold buildRes at hR
  rw [hp] at hR
  have HR0 := Lib.hid hR
  clear hm hR hp
  have fin : ∀ k, R = ⟨0, 0, bs, k⟩ → k ≠ 0 → BuildEnd R b mb w (.returned (.tuple #[.int .i64 0, .int .i64 0, .iface 54 (.int .i64 k)])) w := fun k e hk => by
    subst e
    exact ⟨by unfold errV2; rw [if_neg hk], HM.out, Keep.refl _ _⟩
  have HFin := Lib.hid fin
  clear fin
  by_cases c1 : long < 1
  · have HR := Lib.hid (show R = ⟨0, 0, bs, 1⟩ by rw [← HR0.out, if_pos (.inl c1)])
    go_enter Tryz.func6, Tryz.ntmps6
    go_wp2
    exact bodyPost_ret (v := .tuple #[.int .i64 0, .int .i64 0, .iface 54 (.int .i64 1)]) (by simp [results, Tryz.results6, go_sem]) rfl (HFin.out 1 HR.out (by omega))
  by_cases c2 : 2048 < long
  · have HR := Lib.hid (show R = ⟨0, 0, bs, 1⟩ by rw [← HR0.out, if_pos (.inr (.inl c2))])
    go_enter Tryz.func6, Tryz.ntmps6
    go_wp2
    exact bodyPost_ret (v := .tuple #[.int .i64 0, .int .i64 0, .iface 54 (.int .i64 1)]) (by simp [results, Tryz.results6, go_sem]) rfl (HFin.out 1 HR.out (by omega))
  by_cases c3 : offset < 0
  · have HR := Lib.hid (show R = ⟨0, 0, bs, 1⟩ by rw [← HR0.out, if_pos (.inr (.inr (.inl c3)))])
    go_enter Tryz.func6, Tryz.ntmps6
    go_wp2
    exact bodyPost_ret (v := .tuple #[.int .i64 0, .int .i64 0, .iface 54 (.int .i64 1)]) (by simp [results, Tryz.results6, go_sem]) rfl (HFin.out 1 HR.out (by omega))
  by_cases c4 : 60 < offset
  · have HR := Lib.hid (show R = ⟨0, 0, bs, 1⟩ by rw [← HR0.out, if_pos (.inr (.inr (.inr c4)))])
    go_enter Tryz.func6, Tryz.ntmps6
    go_wp2
    exact bodyPost_ret (v := .tuple #[.int .i64 0, .int .i64 0, .iface 54 (.int .i64 1)]) (by simp [results, Tryz.results6, go_sem]) rfl (HFin.out 1 HR.out (by omega))
  have hsh : offset % 4 ≠ 0 ∨ (n : Int) ≠ (offset + long + 63) / 64 := by omega
  have HR := Lib.hid (show R = ⟨0, 0, bs, 2⟩ by rw [← HR0.out, if_neg (by omega), if_pos hsh])
  have e1 : (offset + long + 64 - 1) / 64 = (offset + long + 63) / 64 := by rw [show offset + long + 64 - 1 = offset + long + 63 by omega]
  have hq0 : 0 ≤ (offset + long + 64 - 1) / 64 := by omega
  by_cases c5 : offset % 4 = 0
  · have d1 : (offset % 4 != 0) = false := by simp; exact c5
    have d2 : ((n : Int) != (offset + long + 64 - 1) / 64) = true := by simp; omega
    clear hsh h e1 c5
    go_enter Tryz.func6, Tryz.ntmps6
    go_wp2
    exact bodyPost_ret (v := .tuple #[.int .i64 0, .int .i64 0, .iface 54 (.int .i64 2)]) (by simp [results, Tryz.results6, go_sem]) rfl (HFin.out 2 HR.out (by omega))
  · have d1 : (offset % 4 != 0) = true := by simp; exact c5
    clear hsh h e1 c5
    go_enter Tryz.func6, Tryz.ntmps6
    go_wp2
    exact bodyPost_ret (v := .tuple #[.int .i64 0, .int .i64 0, .iface 54 (.int .i64 2)]) (by simp [results, Tryz.results6, go_sem]) rfl (HFin.out 2 HR.out (by omega))
theorem drop_cons_getD (l : List Int) (k : Nat) (h : k < l.length) : l.drop k = l.getD k 0 :: l.drop (k + 1) := by
  rw [List.drop_eq_getElem_cons h]
  simp [List.getD, h]
theorem memFits_no {L : Nat} {x n : Int} (h : memFits L x n = false) : x < 0 ∨ n < 0 ∨ (L : Int) < n ∨ (L : Int) - n < x := by
  have : ¬ (0 ≤ x ∧ 0 ≤ n ∧ n ≤ L ∧ x ≤ L - n) := of_decide_eq_false h
  omega
theorem digs_snoc (l : List Int) (x : Int) : digs (l ++ [x]) = digs l ++ leDig 8 x := by simp [digs]
theorem digs_take (nums : List Int) (k : Nat) (h : k < nums.length) : digs (nums.take (k + 1)) = digs (nums.take k) ++ leDig 8 (nums.getD k 0) := by
  rw [← digs_snoc]
  congr 1
  rw [List.take_succ_eq_append_getElem h]
  simp [List.getD, h]
theorem wrap64_bd (n : Int) : -9223372036854775808 ≤ wrap64 n ∧ wrap64 n ≤ 9223372036854775807 := by unfold wrap64; omega
theorem calls_cast2 {P : Program} {f : FuncId} {v : Value} {x x' n n' : Int} {w : World} {Q : Ending → World → Prop} (h : Calls P f #[v, .int .i64 x, .int .i64 n] w Q) (hx : x' = x) (hn : n' = n) : Calls P f #[v, .int .i64 x', .int .i64 n'] w Q := by
  subst hx hn; exact h
def fitRem (L : Nat) (pages : List Int) (offset long : Int) (k : Nat) : Bool := if k = 0 then fitPages L pages offset long else fitPages.go L (pages.drop k) (offset + long - 64 * k)
theorem fitRem_end (L : Nat) (pages : List Int) (offset long : Int) (h : 1 ≤ pages.length) : fitRem L pages offset long pages.length = true := by
  unfold fitRem
  rw [if_neg (by omega), List.drop_length]; rfl
def pieceAt (pages : List Int) (offset : Int) (k : Nat) : Int := pages.getD k 0 + if k = 0 then offset else 0
def pieceLong (n : Nat) (offset long : Int) (k : Nat) : Int := (if k = n - 1 then (offset + long - 1) % 64 + 1 else 64) - if k = 0 then offset else 0
theorem fitRem_step (L : Nat) (pages : List Int) (offset long : Int) (k : Nat) (hk : k < pages.length) (o0 : 0 ≤ offset) (o1 : offset ≤ 60) (l0 : 1 ≤ long) (hlen : (pages.length : Int) = (offset + long + 63) / 64) :
    fitRem L pages offset long k = (memFits L (pieceAt pages offset k) (pieceLong pages.length offset long k) && fitRem L pages offset long (k + 1)) ∧ 1 ≤ pieceLong pages.length offset long k ∧ pieceLong pages.length offset long k ≤ 64 := by
  unfold fitRem pieceAt pieceLong
  rw [if_neg (show ¬ k + 1 = 0 by omega)]
  by_cases h0 : k = 0
  · subst h0
    simp only [if_true]
    obtain ⟨x, t, rfl⟩ : ∃ x t, pages = x :: t := by
      cases pages with
      | nil => simp at hk
      | cons x t => exact ⟨x, t, rfl⟩
    simp only [List.length_cons] at hlen ⊢
    have e : min (64 - offset) long = (if 0 = t.length + 1 - 1 then (offset + long - 1) % 64 + 1 else 64) - offset := by split <;> omega
    refine ⟨?_, by split <;> omega, by split <;> omega⟩
    rw [fitPages, e]
    simp only [List.getD_cons_zero, List.drop_succ_cons, List.drop_zero, Nat.zero_add]
    by_cases ht : t = []
    · subst ht; rfl
    · have htl : 0 < t.length := List.length_pos_iff.2 ht
      rw [if_neg (by omega)]
      congr 2
      omega
  · rw [if_neg h0, if_neg h0, drop_cons_getD pages k hk]
    have e : min 64 (offset + long - 64 * (k : Int)) = (if k = pages.length - 1 then (offset + long - 1) % 64 + 1 else 64) - 0 := by split <;> omega
    refine ⟨?_, by split <;> omega, by split <;> omega⟩
    rw [fitPages.go, e, Int.add_zero]
    by_cases hl : k = pages.length - 1
    · have hd : pages.drop (k + 1) = [] := List.drop_of_length_le (by omega)
      rw [hd]; rfl
    · rw [if_neg hl]
      congr 2
      omega
def NumsCut (at_ : Int) (pages nums : List Int) (na : Option Addr) (nc mb : Nat) (w wx : World) : Prop :=
  Below w.heap.size w wx ∧ NumsRd wx mb na nc nums ∧ ((pages.length ≤ 2 ∧ nums = []) ∨ (2 < pages.length ∧ pageOk at_ = true ∧ Chain at_ pages.tail nums))
theorem build_late (b mb : Nat) (bs : List Int) (at_ : Int) (a : Option Addr) (c : Nat) (offset long : Int) (pages : List Int) (w : World) (hm : MemAt w b mb bs) (hrd : NumsRd w mb a c pages) (a0 : -9223372036854775808 ≤ at_) (a1 : at_ ≤ 9223372036854775807)
    (hwf : ∀ x ∈ pages, -9223372036854775808 ≤ x ∧ x ≤ 9223372036854775807) (o0 : 0 ≤ offset) (o1 : offset ≤ 60) (o4 : offset % 4 = 0) (l0 : 1 ≤ long) (l1 : long ≤ 2048) (hlen : (pages.length : Int) = (offset + long + 63) / 64) :
    Calls Tryz.prog 6 #[.pointer (some ⟨b, 0, none⟩), .int .i64 at_, .slice a pages.length c, .int .i64 offset, .int .i64 long] w (BuildEnd (buildRes bs at_ pages offset long) b mb w) := by
  have HM := Lib.hid hm
  have hmost := hm.most
  obtain ⟨hcap, hrd2⟩ := hrd
  have hn1 : 1 ≤ pages.length := by omega
  have hn33 : pages.length ≤ 33 := by omega
  obtain ⟨pb, off, rfl, hpm, hpl, hcell⟩ := hrd2.resolve_left (by omega)
  have HC := Lib.hid hcell
  have HWf := Lib.hid hwf
  obtain ⟨R, hR⟩ : ∃ R, buildRes bs at_ pages offset long = R := ⟨_, rfl⟩
  rw [hR]
  unfold buildRes at hR
  rw [if_neg (by omega), if_neg (by omega)] at hR
  have HR0 := Lib.hid hR
  have HLen := Lib.hid hlen
  have d1 : (offset % 4 != 0) = false := by simp; exact o4
  have d2 : ((pages.length : Int) != (offset + long + 64 - 1) / 64) = false := by simp; omega
  have HC0 := Lib.hid (hcell 0 (by omega))
  have hpos1 : (0 : Int) < (pages.length : Int) := by omega
  have hq0 : 0 ≤ (offset + long + 64 - 1) / 64 := by omega
  have O4 := Lib.hid o4
  clear hm hR hcell hwf hrd2 hlen o4
  go_enter Tryz.func6, Tryz.ntmps6
  go_wp2_with fail
  clear d1 d2 hq0
  go_loopw [59] (fun i wr => ∃ k : Nat, k ≤ pages.length ∧ i = .int .i64 k ∧ wr = w ∧ ∀ j, j < k → pageOk (pages.getD j 0) = true) (fun i _ => pages.length - (intOf i).toNat)
  case atStart => exact ⟨0, Nat.zero_le _, rfl, rfl, fun j hj => by omega⟩
  case round =>
    obtain ⟨k, hk, rfl, rfl, hok⟩ := hrel
    have HOk := Lib.hid hok
    clear hok
    by_cases hlt : k < pages.length
    · have hc := HC.out k hlt
      have hmem : pages.getD k 0 ∈ pages := by simp [List.getD, hlt]
      have hwk := HWf.out _ hmem
      have HMem := Lib.hid hmem
      have HNext : Hid (pageOk (pages.getD k 0) = true → ∀ j, j < k + 1 → pageOk (pages.getD j 0) = true) := fun h j hj => by
        by_cases e : j = k
        · subst e; exact h
        · exact HOk.out j (by omega)
      clear hmem
      generalize pages.getD k 0 = x at *
      have HA := Lib.hid (aligned_any x 64 wr hwk.1 hwk.2 (by omega) (by omega))
      cases hpg : pageOk x with
      | false =>
        rw [show decide (0 ≤ x ∧ x % 64 = 0) = false from hpg] at HA
        have HR : Hid (R = ⟨0, 0, bs, 2⟩) := by
          show R = _
          rw [← HR0.out, if_pos]
          cases hq : pages.all pageOk with
          | false => rfl
          | true =>
            have := List.all_eq_true.1 hq x HMem.out
            rw [hpg] at this; cases this
        clear hpg
        go_wp2_with fail
        refine HA.out.mono ?_
        rintro e w' ⟨rfl, rfl⟩
        clear HA
        go_wp2
        exact bodyPost_ret (v := .tuple #[.int .i64 0, .int .i64 0, .iface 54 (.int .i64 2)]) (by simp [results, Tryz.results6, go_sem]) rfl (by rw [HR.out]; exact ⟨rfl, HM.out, Keep.refl _ _⟩)
      | true =>
        rw [show decide (0 ≤ x ∧ x % 64 = 0) = true from hpg] at HA
        have HN2 := Lib.hid (HNext.out hpg)
        clear hpg HNext
        go_wp2_with fail
        refine HA.out.mono ?_
        rintro e w' ⟨rfl, rfl⟩
        clear HA
        go_wp2
        go_roundw
        case rel => exact ⟨k + 1, by omega, by go_num, by trivial, HN2.out⟩
        case measure => simp [intOf]; omega
    · obtain rfl : k = pages.length := by omega
      have hall : pages.all pageOk = true := List.all_eq_true.2 (fun x hx => by
        obtain ⟨j, hj, e⟩ := List.mem_iff_getElem.1 hx
        have := HOk.out j hj
        simpa [List.getD, hj, e] using this)
      have hR := HR0.out
      rw [if_neg (by rw [hall]; simp)] at hR
      have HR1 := Lib.hid hR
      have HAll := Lib.hid hall
      clear hR hall HR0 HOk
      rename World => w1
      go_upto_if 70 with (fail)
      go_cut [15] (fun s15 wx => ∃ (nums : List Int) (na : Option Addr) (nc : Nat), s15 = .slice na nums.length nc ∧ NumsCut at_ pages nums na nc mb w1 wx)
      case first =>
        by_cases h2 : 2 < pages.length
        · have HA := Lib.hid (aligned_any at_ 64 w1 a0 a1 (by omega) (by omega))
          have hi2 : (2 : Int) < (pages.length : Int) := by omega
          cases hpg : pageOk at_ with
          | false =>
            rw [show decide (0 ≤ at_ ∧ at_ % 64 = 0) = false from hpg] at HA
            have HR := Lib.hid (show R = ⟨0, 0, bs, 2⟩ by rw [← HR1.out, if_pos ⟨h2, hpg⟩])
            clear hpg
            go_wp2_with fail
            refine HA.out.mono ?_
            rintro e w' ⟨rfl, rfl⟩
            clear HA
            go_wp2
            exact bodyPost_ret (v := .tuple #[.int .i64 0, .int .i64 0, .iface 54 (.int .i64 2)]) (by simp [results, Tryz.results6, go_sem]) rfl (by rw [HR.out]; exact ⟨rfl, HM.out, Keep.refl _ _⟩)
          | true =>
            rw [show decide (0 ≤ at_ ∧ at_ % 64 = 0) = true from hpg] at HA
            have HPg := Lib.hid hpg
            have htl : pages.tail.length = pages.length - 1 := List.length_tail ..
            have HTl := Lib.hid htl
            have hch := chain_any 32 at_ pb (off + 1) (c - 1) pages.tail w1 (by omega) (by omega) (by omega) hpl a0 a1 (fun i hi => by
              rw [Nat.add_assoc, HC.out (1 + i) (by omega)]
              rw [Nat.add_comm 1 i]
              simp [List.getD])
            rw [htl] at hch
            have HCh := Lib.hid hch
            have hc1 : ¬ c = 1 := by omega
            have hb1 : 1 ≤ c := by omega
            clear hpg hch htl
            go_wp2_with fail
            refine HA.out.mono ?_
            rintro e w' ⟨rfl, rfl⟩
            clear HA
            go_wp2_with fail
            refine HCh.out.mono ?_
            rintro e w3 ⟨nums, gb, offn, cn, hchn, rfl, hbel, hcapn, hgb, hgl, hcn⟩
            have HNC : Hid (NumsCut at_ pages nums (some ⟨gb, offn, none⟩) cn mb w1 w3) := ⟨hbel, ⟨hcapn, .inr ⟨gb, offn, rfl, by have := HM.out.body.lt; omega, hgl, hcn⟩⟩, .inr ⟨h2, HPg.out, hchn⟩⟩
            clear hchn hbel hcapn hgb hgl hcn HCh
            go_wp2
            go_meet
            case rel => exact ⟨nums, _, cn, rfl, HNC.out⟩
        · have hi2 : ¬ (2 : Int) < (pages.length : Int) := by omega
          have hi3 : decide ((2 : Int) < (pages.length : Int)) = false := decide_eq_false hi2
          go_wp2
          go_meet
          case rel => exact ⟨[], none, 0, rfl, Below.refl _ _, ⟨by simp, .inl rfl⟩, .inl ⟨by omega, rfl⟩⟩
      case rest =>
        obtain ⟨nums, na, nc, rfl, hcut⟩ := hcut
        have HCut := Lib.hid hcut
        clear hcut
        go_wp2_with fail
        go_loopw [81] (fun i wq => ∃ k : Nat, k ≤ pages.length ∧ i = .int .i64 k ∧ Below wc.heap.size wc wq ∧ fitRem bs.length pages offset long k = fitPages bs.length pages offset long) (fun i _ => pages.length - (intOf i).toNat)
        case atStart => exact ⟨0, Nat.zero_le _, rfl, Below.refl _ _, rfl⟩
        case round =>
          obtain ⟨k, hk, rfl, hbq, hfit⟩ := hrel
          have HBq := Lib.hid hbq
          have HFit := Lib.hid hfit
          clear hbq hfit
          by_cases hlt : k < pages.length
          · obtain ⟨hst, hn1', hn64⟩ := fitRem_step bs.length pages offset long k hlt o0 o1 l0 HLen.out
            rw [hst] at HFit
            have HK1 := Lib.hid (Keep.ofBel (mb := mb) (HCut.out.1.trans (HBq.out.mono HCut.out.1.size)))
            have HMq := Lib.hid (HM.out.below (HCut.out.1.trans (HBq.out.mono HCut.out.1.size)))
            have hcq : wr.cell? ⟨pb, off + k, none⟩ = some (.int .i64 (pages.getD k 0)) := (HK1.out.cell (p := ⟨pb, off + k, none⟩) hpl hpm).trans (HC.out k hlt)
            have hmem : pages.getD k 0 ∈ pages := by simp [List.getD, hlt]
            have hwk := HWf.out _ hmem
            have hpg := (pageOk_iff _).1 (List.all_eq_true.1 HAll.out _ hmem)
            have hmod : 0 ≤ (offset + long - 1) % 64 ∧ (offset + long - 1) % 64 < 64 := by omega
            have hol : 0 ≤ offset + long - 1 := by omega
            have hcs : ((((k : Int) == 0) = true ∧ pieceAt pages offset k = pages.getD k 0 + offset) ∨ (((k : Int) == 0) = false ∧ pieceAt pages offset k = pages.getD k 0)) ∧
                ((((k : Int) == (pages.length : Int) - 1) = true ∧ pieceAt pages offset k + pieceLong pages.length offset long k = pages.getD k 0 + (offset + long - 1) % 64 + 1) ∨ (((k : Int) == (pages.length : Int) - 1) = false ∧ pieceAt pages offset k + pieceLong pages.length offset long k = pages.getD k 0 + 64)) := by
              unfold pieceAt pieceLong
              refine ⟨?_, ?_⟩
              · by_cases h0 : k = 0
                · exact .inl ⟨by simp; omega, by rw [if_pos h0]⟩
                · exact .inr ⟨by simp; omega, by rw [if_neg h0]; omega⟩
              · by_cases hl : k = pages.length - 1
                · refine .inl ⟨by simp; omega, ?_⟩
                  rw [if_pos hl]; split <;> omega
                · refine .inr ⟨by simp; omega, ?_⟩
                  rw [if_neg hl]; split <;> omega
            clear hst hmem
            generalize pages.getD k 0 = x at *
            generalize pieceAt pages offset k = pa at *
            generalize pieceLong pages.length offset long k = pl at *
            obtain ⟨hc0, hcl⟩ := hcs
            cases hf : memFits bs.length pa pl with
            | true =>
              have hf' := (memFits_iff _ _ _).1 hf
              have hx62 : x ≤ 16384 := by rcases hc0 with h | h <;> omega
              rw [hf, Bool.true_and] at HFit
              obtain ⟨q, rfl⟩ := Int.eq_ofNat_of_zero_le hf'.1
              obtain ⟨m, rfl⟩ := Int.eq_ofNat_of_zero_le hf'.2.1
              have HRead := Lib.hid (mem_read_ok b mb bs q m wr HMq.out (by omega))
              clear hf hf'
              rcases hc0 with ⟨d0, ea⟩ | ⟨d0, ea⟩
              all_goals rcases hcl with ⟨dl, el⟩ | ⟨dl, el⟩
              all_goals
                have EA := Lib.hid ea
                have EL := Lib.hid el
                clear ea el
                go_wp2_with fail
                refine (calls_cast2 HRead.out (by have := EA.out; have := EL.out; omega) (by have := EA.out; have := EL.out; omega)).mono ?_
                rintro e w3 ⟨g, cap3, rfl, _, hbel3⟩
                have HB3 := Lib.hid (HBq.out.trans (hbel3.mono HBq.out.size))
                clear hbel3 HRead hcq
                go_wp2
                go_roundw
                case rel => exact ⟨k + 1, by omega, by go_num, HB3.out, HFit.out⟩
                case measure => simp [intOf]; omega
            | false =>
              have hfp : fitPages bs.length pages offset long = false := by rw [← HFit.out, hf]; rfl
              have hR := HR1.out
              rw [if_neg (by rcases HCut.out.2.2 with h | h <;> (rintro ⟨q1, q2⟩; first | omega | (rw [h.2.1] at q2; cases q2))), if_pos hfp] at hR
              have HR := Lib.hid hR.symm
              have HX : Hid (∀ n : Int, n = pl ∨ 16384 < pa → (pa < 0 ∨ n < 0 ∨ (bs.length : Int) < n ∨ (bs.length : Int) - n < pa)) := by
                have hnf : ¬ (0 ≤ pa ∧ 0 ≤ pl ∧ pl ≤ bs.length ∧ pa ≤ bs.length - pl) := of_decide_eq_false hf
                rintro n (rfl | h) <;> omega
              have hpb : 0 ≤ pa ∧ pa ≤ 9223372036854775807 := by rcases hc0 with h | h <;> omega
              clear hf hfp hR HFit
              have HBad := Lib.hid (fun (n : Int) (h0 : -9223372036854775808 ≤ n) (h1 : n ≤ 9223372036854775807) (hn : n = pl ∨ 16384 < pa) => mem_read_bad b mb bs pa n wr HMq.out (by omega) hpb.2 h0 h1 (HX.out n hn))
              unfold memRangeErr at HBad
              have HEnd : Hid (BuildEnd R b mb w1 (.returned (.tuple #[.int .i64 0, .int .i64 0, .iface 54 (.int .i64 1)])) wr) := by
                rw [HR.out]
                exact ⟨rfl, HMq.out, HK1.out⟩
              have hwb := wrap64_bd
              rcases hc0 with ⟨d0, ea⟩ | ⟨d0, ea⟩
              all_goals rcases hcl with ⟨dl, el⟩ | ⟨dl, el⟩
              all_goals
                have EA := Lib.hid ea
                have EL := Lib.hid el
                have HWb := Lib.hid hwb
                clear ea el hwb
                by_cases hbig : x ≤ 4611686018427387904
                · go_wp2_with fail
                  refine (calls_cast2 (HBad.out pl (by omega) (by omega) (.inl rfl)) (by have := EA.out; have := EL.out; omega) (by have := EA.out; have := EL.out; omega)).mono ?_
                  rintro e w3 ⟨rfl, rfl⟩
                  clear HBad hcq HX
                  go_wp2
                  exact bodyPost_ret (v := .tuple #[.int .i64 0, .int .i64 0, .iface 54 (.int .i64 1)]) (by simp [results, Tryz.results6, go_sem]) rfl HEnd.out
                · go_wp2_with fail
                  refine (calls_cast2 (HBad.out _ (by first | exact (HWb.out _).1 | omega) (by first | exact (HWb.out _).2 | omega) (.inr (by have := EA.out; omega))) (by have := EA.out; omega) rfl).mono ?_
                  rintro e w3 ⟨rfl, rfl⟩
                  clear HBad hcq HX
                  go_wp2
                  exact bodyPost_ret (v := .tuple #[.int .i64 0, .int .i64 0, .iface 54 (.int .i64 1)]) (by simp [results, Tryz.results6, go_sem]) rfl HEnd.out
          · obtain rfl : k = pages.length := by omega
            have hfp : fitPages bs.length pages offset long = true := by rw [← HFit.out]; exact fitRem_end _ _ _ _ (by omega)
            have hR := HR1.out
            rw [if_neg (by rcases HCut.out.2.2 with h | h <;> (rintro ⟨q1, q2⟩; first | omega | (rw [h.2.1] at q2; cases q2))), if_neg (by rw [hfp]; simp)] at hR
            have HR2 := Lib.hid hR
            have HFp := Lib.hid hfp
            clear hR hfp HFit HR1
            have HB0 := Lib.hid (HCut.out.1.trans (HBq.out.mono HCut.out.1.size))
            have HK0 := Lib.hid (Keep.ofBel (mb := mb) HB0.out)
            have HMq := Lib.hid (HM.out.below HB0.out)
            have HNq := Lib.hid (HCut.out.2.1.keep (Keep.ofBel HBq.out))
            have HPg : Hid (∀ w', Keep (· = mb) w1 w' → ∀ i, i < pages.length → w'.cell? ⟨pb, off + i, none⟩ = some (.int .i64 (pages.getD i 0))) := fun w' hk i hi => (hk.cell (p := ⟨pb, off + i, none⟩) hpl hpm).trans (HC.out i hi)
            have HPb : Hid (∀ i, i < pages.length → 0 ≤ pages.getD i 0 ∧ pages.getD i 0 + 64 ≤ 9223372036854775808) := fun i hi => by
              have hmem : pages.getD i 0 ∈ pages := by simp [List.getD, hi]
              have h1 := HWf.out _ hmem
              have h2 := (pageOk_iff _).1 (List.all_eq_true.1 HAll.out _ hmem)
              omega
            have HCase := Lib.hid HCut.out.2.2
            clear HCut HC HC0 HBq
            rcases HCase.out with ⟨hle, hnil⟩ | ⟨h2, hpg, hch⟩
            · subst hnil
              have hR := HR2.out
              rw [if_neg (by omega)] at hR
              have hln : listNums at_ pages = [] := by unfold listNums; rw [if_neg (by omega)]
              rw [hln, show splice bs at_.toNat (digs []) = bs by simp [splice, digs]] at hR
              have HR := Lib.hid hR
              clear hR hln HR2 HCase
              cases hf : memFits bs.length at_ 0 with
              | false =>
                have HBad := Lib.hid (mem_read_bad b mb bs at_ 0 wr HMq.out a0 a1 (by omega) (by omega) (by
                  have hnf : ¬ (0 ≤ at_ ∧ 0 ≤ (0 : Int) ∧ (0 : Int) ≤ bs.length ∧ at_ ≤ bs.length - 0) := of_decide_eq_false hf
                  omega))
                unfold memRangeErr at HBad
                clear hf
                go_wp2_with fail
                refine (calls_cast2 HBad.out rfl (by simp)).mono ?_
                rintro e w3 ⟨rfl, rfl⟩
                have HKx := HK0
                have HMx := HMq
                clear HBad HB0
                have HPc := Lib.hid (HPg.out wr HKx.out)
                have hc0 : wr.cell? ⟨pb, off, none⟩ = some (.int .i64 (pages.getD 0 0)) := by have := HPc.out 0 (by omega); simpa using this
                have hb0 := HPb.out 0 (by omega)
                by_cases hl1 : pages.length = 1
                · have e1 : ((pages.length : Int) == 1) = true := by simp; omega
                  have HR' : Hid (R = ⟨pages.getD 0 0 + offset, 0, bs, 0⟩) := by show R = _; rw [← HR.out, if_pos hl1]
                  clear hl1 HPc
                  generalize pages.getD 0 0 = x0 at *
                  go_wp2_with fail
                  go_loopw [139] (fun i w5 => i = .int .i64 0 ∧ w5 = wr) (fun i _ => 0)
                  case atStart => exact ⟨rfl, rfl⟩
                  case round =>
                    obtain ⟨rfl, rfl⟩ := hrel
                    go_wp2
                    exact bodyPost_ret (v := .tuple #[.int .i64 (x0 + offset), .int .i64 0, .nilIface]) (by simp [results, Tryz.results6, go_sem]) rfl (by rw [HR'.out]; exact ⟨rfl, HMx.out, HKx.out⟩)
                · have hl2 : pages.length = 2 := by omega
                  have e1 : ((pages.length : Int) == 1) = false := by simp; omega
                  have e2 : ((pages.length : Int) == 2) = true := by simp; omega
                  have HR' : Hid (R = ⟨pages.getD 0 0 + offset, pages.getD 1 0, bs, 0⟩) := by show R = _; rw [← HR.out, if_neg hl1, if_pos hl2]
                  have hc1 : wr.cell? ⟨pb, off + 1, none⟩ = some (.int .i64 (pages.getD 1 0)) := HPc.out 1 (by omega)
                  have hlt1 : (1 : Int) < (pages.length : Int) := by omega
                  clear hl1 hl2 HPc
                  generalize pages.getD 0 0 = x0 at *
                  generalize pages.getD 1 0 = x1 at *
                  go_wp2_with fail
                  go_loopw [139] (fun i w5 => i = .int .i64 0 ∧ w5 = wr) (fun i _ => 0)
                  case atStart => exact ⟨rfl, rfl⟩
                  case round =>
                    obtain ⟨rfl, rfl⟩ := hrel
                    go_wp2_with fail
                    have e3 : IntKind.i64.wrap (x0 + offset) = x0 + offset := IntWalk.i64_in _ (by omega)
                    go_quiet (fail)
                    clear e3
                    go_wp2
                    exact bodyPost_ret (v := .tuple #[.int .i64 (x0 + offset), .int .i64 x1, .nilIface]) (by simp [results, Tryz.results6, go_sem]) rfl (by rw [HR'.out]; exact ⟨rfl, HMx.out.drewN _, HKx.out.drewN _⟩)
              | true =>
                have hf' := (memFits_iff _ _ _).1 hf
                obtain ⟨q, rfl⟩ := Int.eq_ofNat_of_zero_le hf'.1
                have HRead := Lib.hid (mem_read_ok b mb bs q 0 wr HMq.out (by omega))
                clear hf hf'
                go_wp2_with fail
                refine (calls_cast2 HRead.out rfl (by simp)).mono ?_
                rintro e w3 ⟨g, cap3, rfl, _, hbel3⟩
                have HBx := Lib.hid (HB0.out.trans (hbel3.mono HB0.out.size))
                have HKx := Lib.hid (Keep.ofBel (mb := mb) HBx.out)
                have HMx := Lib.hid (HM.out.below HBx.out)
                clear hbel3 HRead HB0 HBx
                have HPc := Lib.hid (HPg.out w3 HKx.out)
                have hc0 : w3.cell? ⟨pb, off, none⟩ = some (.int .i64 (pages.getD 0 0)) := by have := HPc.out 0 (by omega); simpa using this
                have hb0 := HPb.out 0 (by omega)
                by_cases hl1 : pages.length = 1
                · have e1 : ((pages.length : Int) == 1) = true := by simp; omega
                  have HR' : Hid (R = ⟨pages.getD 0 0 + offset, 0, bs, 0⟩) := by show R = _; rw [← HR.out, if_pos hl1]
                  clear hl1 HPc
                  generalize pages.getD 0 0 = x0 at *
                  go_wp2_with fail
                  go_loopw [139] (fun i w5 => i = .int .i64 0 ∧ w5 = w3) (fun i _ => 0)
                  case atStart => exact ⟨rfl, rfl⟩
                  case round =>
                    obtain ⟨rfl, rfl⟩ := hrel
                    go_wp2
                    exact bodyPost_ret (v := .tuple #[.int .i64 (x0 + offset), .int .i64 0, .nilIface]) (by simp [results, Tryz.results6, go_sem]) rfl (by rw [HR'.out]; exact ⟨rfl, HMx.out, HKx.out⟩)
                · have hl2 : pages.length = 2 := by omega
                  have e1 : ((pages.length : Int) == 1) = false := by simp; omega
                  have e2 : ((pages.length : Int) == 2) = true := by simp; omega
                  have HR' : Hid (R = ⟨pages.getD 0 0 + offset, pages.getD 1 0, bs, 0⟩) := by show R = _; rw [← HR.out, if_neg hl1, if_pos hl2]
                  have hc1 : w3.cell? ⟨pb, off + 1, none⟩ = some (.int .i64 (pages.getD 1 0)) := HPc.out 1 (by omega)
                  have hlt1 : (1 : Int) < (pages.length : Int) := by omega
                  clear hl1 hl2 HPc
                  generalize pages.getD 0 0 = x0 at *
                  generalize pages.getD 1 0 = x1 at *
                  go_wp2_with fail
                  go_loopw [139] (fun i w5 => i = .int .i64 0 ∧ w5 = w3) (fun i _ => 0)
                  case atStart => exact ⟨rfl, rfl⟩
                  case round =>
                    obtain ⟨rfl, rfl⟩ := hrel
                    go_wp2_with fail
                    have e3 : IntKind.i64.wrap (x0 + offset) = x0 + offset := IntWalk.i64_in _ (by omega)
                    go_quiet (fail)
                    clear e3
                    go_wp2
                    exact bodyPost_ret (v := .tuple #[.int .i64 (x0 + offset), .int .i64 x1, .nilIface]) (by simp [results, Tryz.results6, go_sem]) rfl (by rw [HR'.out]; exact ⟨rfl, HMx.out.drewN _, HKx.out.drewN _⟩)
            · have hpg' := (pageOk_iff at_).1 hpg
              have htl : pages.tail.length = pages.length - 1 := List.length_tail ..
              have hnpos := hch.pos (by rw [htl]; exact Nat.sub_pos_of_lt (by omega))
              have hnmost := hch.most
              have ht32 : pages.tail.length ≤ 32 := by rw [htl]; exact Nat.sub_le_of_le_add (by omega)
              have ht2 : 2 ≤ pages.tail.length := by rw [htl]; exact Nat.le_sub_of_add_le (by omega)
              have hn66 : nums.length ≤ 64 := by omega
              clear htl hnmost
              have hLN : at_ ≤ 16384 → nums = listNums at_ pages := fun h => by
                unfold listNums
                rw [if_pos h2]
                exact hch.from_ hpg'.2 hpg'.1 (by omega)
              have hR := HR2.out
              obtain ⟨hncap, hnrd⟩ := HNq.out
              obtain ⟨nb, noff, rfl, hnm, hnl, hncell⟩ := hnrd.resolve_left (by omega)
              cases hf : memFits bs.length at_ (8 * nums.length) with
              | false =>
                have hnf : ¬ (0 ≤ at_ ∧ 0 ≤ 8 * (nums.length : Int) ∧ 8 * (nums.length : Int) ≤ bs.length ∧ at_ ≤ bs.length - 8 * (nums.length : Int)) := of_decide_eq_false hf
                have hf2 : memFits bs.length at_ (8 * (listNums at_ pages).length) = false := by
                  by_cases h : at_ ≤ 16384
                  · rw [← hLN h]; exact hf
                  · exact decide_eq_false (by omega)
                rw [if_pos ⟨h2, hf2⟩] at hR
                have HR := Lib.hid hR.symm
                have HBad := Lib.hid (mem_read_bad b mb bs at_ (8 * nums.length) wr HMq.out a0 a1 (by omega) (by omega) (memFits_no hf))
                unfold memRangeErr at HBad
                have HEnd : Hid (BuildEnd R b mb w1 (.returned (.tuple #[.int .i64 0, .int .i64 0, .iface 54 (.int .i64 1)])) wr) := by
                  rw [HR.out]
                  exact ⟨rfl, HMq.out, HK0.out⟩
                have hnpi : (0 : Int) < (nums.length : Int) := by omega
                clear hf hf2 hnf hLN hR hncell HR2 HCase hch hpg hpg'
                go_wp2_with fail
                refine HBad.out.mono ?_
                rintro e w3 ⟨rfl, rfl⟩
                clear HBad
                go_wp2
                exact bodyPost_ret (v := .tuple #[.int .i64 0, .int .i64 0, .iface 54 (.int .i64 1)]) (by simp [results, Tryz.results6, go_sem]) rfl HEnd.out
              | true =>
                have hf' := (memFits_iff _ _ _).1 hf
                have hln := hLN (by omega)
                have hf2 : memFits bs.length at_ (8 * (listNums at_ pages).length) = true := by rw [← hln]; exact hf
                rw [if_neg (by rw [hf2]; rintro ⟨_, q⟩; cases q), ← hln, if_neg (by omega), if_neg (by omega)] at hR
                obtain ⟨q, rfl⟩ := Int.eq_ofNat_of_zero_le hf'.1
                have hqn : q + 8 * nums.length ≤ bs.length := by omega
                have hbd : ∀ x ∈ nums, 0 ≤ x ∧ x ≤ 4611686018427387904 := by
                  have e : nums = chainFrom (q : Int) pages.tail := hch.from_ hpg'.2 hpg'.1 (by omega)
                  rw [e]
                  have hfp := HFp.out
                  refine chain_small bs.length hmost pages.tail.length pages.tail (Nat.le_refl _) q (by omega) (by rw [← e]; omega) ?_
                  cases pages with
                  | nil => simp at h2
                  | cons x t =>
                    rw [fitPages, Bool.and_eq_true] at hfp
                    exact fitAll_mem _ _ _ (fitAll_go _ _ _ hfp.2)
                have HBd := Lib.hid hbd
                have HR := Lib.hid hR.symm
                have HRead := Lib.hid (mem_read_ok b mb bs q (8 * nums.length) wr HMq.out hqn)
                have HNc := Lib.hid hncell
                have hnpi : (0 : Int) < (nums.length : Int) := by omega
                have hp1 : ¬ pages.length = 1 := by omega
                have e1 : ((pages.length : Int) == 1) = false := by simp; omega
                have e2 : ((pages.length : Int) == 2) = false := by simp; omega
                simp only [Int.toNat_natCast] at HR
                clear hf hf' hf2 hLN hR hln hbd hncell HR2 HCase hch hpg hpg'
                go_wp2_with fail
                refine (calls_cast2 HRead.out rfl (by omega)).mono ?_
                rintro e w3 ⟨g, cap3, rfl, _, hbel3⟩
                have HB3 := Lib.hid (HB0.out.trans (hbel3.mono HB0.out.size))
                have HK3 := Lib.hid (Keep.ofBel (mb := mb) HB3.out)
                have HM3 := Lib.hid (HM.out.below HB3.out)
                have HNc3 : Hid (∀ w', Keep (· = mb) w3 w' → ∀ i, i < nums.length → w'.cell? ⟨nb, noff + i, none⟩ = some (.int .i64 (nums.getD i 0))) := fun w' hk i hi =>
                  (((Keep.ofBel (mb := mb) hbel3).trans hk).cell (p := ⟨nb, noff + i, none⟩) hnl hnm).trans (HNc.out i hi)
                clear hbel3 HRead HNc
                go_wp2_with fail
                go_loopw [139] (fun i w5 => ∃ k : Nat, k ≤ nums.length ∧ i = .int .i64 k ∧ MemAt w5 b mb (splice bs q (digs (nums.take k))) ∧ Keep (· = mb) w3 w5) (fun i _ => nums.length - (intOf i).toNat)
                case atStart => exact ⟨0, Nat.zero_le _, rfl, by simpa [digs, splice] using HM3.out, Keep.refl _ _⟩
                case round =>
                  obtain ⟨k, hk, rfl, hmk, hkk⟩ := hrel
                  have HMk := Lib.hid hmk
                  have HKk := Lib.hid hkk
                  clear hmk hkk
                  by_cases hlt : k < nums.length
                  · have hc := HNc3.out _ HKk.out k hlt
                    have hxb := HBd.out (nums.getD k 0) (by simp [List.getD, hlt])
                    have hdl : (digs (nums.take k)).length = 8 * k := by rw [digs_length]; simp; omega
                    have hsl : (splice bs q (digs (nums.take k))).length = bs.length := length_splice _ _ _ (by omega)
                    have hset := mem_set_ok b mb _ (q + 8 * k) (nums.getD k 0) wr HMk.out (by rw [hsl]; omega) hxb.1 hxb.2
                    have hds := digs_take nums k hlt
                    have hsm : splice (splice bs q (digs (nums.take k))) (q + 8 * k) (leDig 8 (nums.getD k 0)) = splice bs q (digs (nums.take (k + 1))) := by
                      rw [hds, ← splice_more bs (digs (nums.take k)) _ q (by rw [hdl, leDig_length]; omega), hdl]
                    rw [hsm] at hset
                    have HSet := Lib.hid hset
                    clear hset hsm hds hsl hdl
                    generalize nums.getD k 0 = x at *
                    go_wp2_with fail
                    refine (calls_cast2 HSet.out (by omega) rfl).mono ?_
                    rintro e w6 ⟨rfl, hm6, hk6⟩
                    have HM6 := Lib.hid hm6
                    have HK6 := Lib.hid (HKk.out.trans hk6)
                    clear hm6 hk6 HSet hc
                    go_wp2
                    go_roundw
                    case rel => exact ⟨k + 1, by omega, by go_num, HM6.out, HK6.out⟩
                    case measure => simp [intOf]; omega
                  · obtain rfl : k = nums.length := by omega
                    rw [List.take_of_length_le (Nat.le_refl _)] at HMk
                    have HKx := Lib.hid (HK3.out.trans HKk.out)
                    have HPc := Lib.hid (HPg.out wr HKx.out)
                    have hc0 : wr.cell? ⟨pb, off, none⟩ = some (.int .i64 (pages.getD 0 0)) := by have := HPc.out 0 (by omega); simpa using this
                    have hb0 := HPb.out 0 (by omega)
                    clear HPc
                    generalize pages.getD 0 0 = x0 at *
                    go_wp2
                    exact bodyPost_ret (v := .tuple #[.int .i64 (x0 + offset), .int .i64 q, .nilIface]) (by simp [results, Tryz.results6, go_sem]) rfl (by rw [HR.out]; exact ⟨rfl, HMk.out, HKx.out⟩)
end Go.Proofs.YtdkpbobglogmoaaGreat
namespace Go.Proofs.YtdkpbobglogmoaaGreat
open Go.RowKit Go.WideShapes
theorem IsRow.ints {w : World} {a : Option Addr} {len cap : Nat} {zs : List Int} (h : IsRow .i64 8 w a len cap zs) :
    ∃ ps : List Int, ps.length = len ∧ len * 8 ≤ 140737488351232 ∧ len ≤ cap ∧ (∀ x ∈ ps, -9223372036854775808 ≤ x ∧ x ≤ 9223372036854775807) ∧
      (len = 0 ∨ ∃ b off, a = some ⟨b, off, none⟩ ∧ b < w.heap.size ∧ ∀ w', Below w.heap.size w w' → ∀ i, i < len → w'.cell? ⟨b, off + i, none⟩ = some (.int .i64 (ps.getD i 0))) := by
  by_cases hl : 0 < len
  · obtain ⟨b, off, rfl, h1, h2, h3, h4, h5, h6⟩ := h.at hl
    refine ⟨zs.take len, by simp; omega, by omega, h1, ?_, .inr ⟨b, off, rfl, h4, fun w' hw i hi => ?_⟩⟩
    · intro x hx
      obtain ⟨i, hi, e⟩ := List.mem_iff_getElem.1 hx
      have hi' : i < len := by simp at hi; omega
      have := h6 i (by omega)
      have e2 : zs.getD i 0 = x := by
        rw [← e]; simp [List.getD, List.getElem?_eq_getElem (show i < zs.length by omega)]
      rw [e2] at this
      exact bounds_i64 this
    · rw [h5 w' hw i (by omega)]
      simp [List.getD, hi]
  · exact ⟨[], by simp; omega, by omega, by omega, by simp, .inl (by omega)⟩
theorem build_any (b mb : Nat) (bs : List Int) (at_ : Int) (a : Option Addr) (c : Nat) (offset long : Int) (pages : List Int) (w : World) (hm : MemAt w b mb bs) (hrd : NumsRd w mb a c pages) (a0 : -9223372036854775808 ≤ at_) (a1 : at_ ≤ 9223372036854775807)
    (hwf : ∀ x ∈ pages, -9223372036854775808 ≤ x ∧ x ≤ 9223372036854775807) (hn : pages.length ≤ 9223372036854775807) (o0 : -9223372036854775808 ≤ offset) (o1 : offset ≤ 9223372036854775807) (l0 : -9223372036854775808 ≤ long) (l1 : long ≤ 9223372036854775807) :
    Calls Tryz.prog 6 #[.pointer (some ⟨b, 0, none⟩), .int .i64 at_, .slice a pages.length c, .int .i64 offset, .int .i64 long] w (BuildEnd (buildRes bs at_ pages offset long) b mb w) := by
  by_cases h : long < 1 ∨ 2048 < long ∨ offset < 0 ∨ 60 < offset ∨ offset % 4 ≠ 0 ∨ (pages.length : Int) ≠ (offset + long + 63) / 64
  · exact build_early b mb bs at_ a pages.length c offset long w hm o0 o1 l0 l1 hn pages rfl h
  · exact build_late b mb bs at_ a c offset long pages w hm hrd a0 a1 hwf (by omega) (by omega) (by omega) (by omega) (by omega) (by omega)
end Go.Proofs.YtdkpbobglogmoaaGreat
