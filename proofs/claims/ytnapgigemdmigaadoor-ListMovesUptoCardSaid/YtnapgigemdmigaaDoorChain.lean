/- Contract of list.chain. -/
import Derived.Test.YtnapgigemdmigaaDoorListBuilt
import Derived.Test.YtnapgigemdmigaaDoorOwn
import Derived.Test.YtnapgigemdmigaaDoorProg
import Derived.WalkSpells
import Derived.Deep.AppendLies
import Derived.Deep.RegionLaw
import Derived.IntWalk
import Derived.Laws.OwnMore
namespace Go.Proofs.YtnapgigemdmigaaDoor
open Go.RowKit Go.WideShapes
set_option linter.unusedVariables false

inductive Chain : Int → List Int → List Int → Prop
  | short (at_ : Int) (pages : List Int) (h : pages.length ≤ 8) : Chain at_ pages pages
  | long (at_ : Int) (pages rest : List Int) (h : 8 < pages.length) (hr : Chain (IntKind.i64.wrap (at_ + 64)) (pages.drop 7) rest) : Chain at_ pages (pages.take 7 ++ IntKind.i64.wrap (at_ + 64) :: rest)
theorem Chain.pos {at_ : Int} {pages nums : List Int} (h : Chain at_ pages nums) : 0 < pages.length → 0 < nums.length := by
  cases h with
  | short => exact id
  | long rest h hr => intro _; simp; omega
theorem Chain.most {at_ : Int} {pages nums : List Int} (h : Chain at_ pages nums) : nums.length ≤ 2 * pages.length := by
  induction h with
  | short => omega
  | long at_ pages rest h hr ih => simp only [List.length_drop, List.length_append, List.length_take, List.length_cons] at ih ⊢; omega
theorem chainFrom_short (pages : List Int) (at_ : Int) (h64 : at_ % 64 = 0) (h : pages.length ≤ 8) : chainFrom at_ pages = pages := by
  have k0 : ¬ at_ % 64 = 56 := by omega
  have k1 : ¬ (at_ + 8) % 64 = 56 := by omega
  have k2 : ¬ (at_ + 8 + 8) % 64 = 56 := by omega
  have k3 : ¬ (at_ + 8 + 8 + 8) % 64 = 56 := by omega
  have k4 : ¬ (at_ + 8 + 8 + 8 + 8) % 64 = 56 := by omega
  have k5 : ¬ (at_ + 8 + 8 + 8 + 8 + 8) % 64 = 56 := by omega
  have k6 : ¬ (at_ + 8 + 8 + 8 + 8 + 8 + 8) % 64 = 56 := by omega
  match pages, h with
  | [], _ => rfl
  | [_], _ => rfl
  | [_, _], _ => simp only [chainFrom, k0, if_false]
  | [_, _, _], _ => simp only [chainFrom, k0, k1, if_false]
  | [_, _, _, _], _ => simp only [chainFrom, k0, k1, k2, if_false]
  | [_, _, _, _, _], _ => simp only [chainFrom, k0, k1, k2, k3, if_false]
  | [_, _, _, _, _, _], _ => simp only [chainFrom, k0, k1, k2, k3, k4, if_false]
  | [_, _, _, _, _, _, _], _ => simp only [chainFrom, k0, k1, k2, k3, k4, k5, if_false]
  | [_, _, _, _, _, _, _, _], _ => simp only [chainFrom, k0, k1, k2, k3, k4, k5, k6, if_false]
  | _ :: _ :: _ :: _ :: _ :: _ :: _ :: _ :: _ :: _, h => simp at h
theorem chainFrom_long (pages : List Int) (at_ : Int) (h64 : at_ % 64 = 0) (h : 8 < pages.length) : chainFrom at_ pages = pages.take 7 ++ (at_ + 64) :: chainFrom (at_ + 64) (pages.drop 7) := by
  have k0 : ¬ at_ % 64 = 56 := by omega
  have k1 : ¬ (at_ + 8) % 64 = 56 := by omega
  have k2 : ¬ (at_ + 8 + 8) % 64 = 56 := by omega
  have k3 : ¬ (at_ + 8 + 8 + 8) % 64 = 56 := by omega
  have k4 : ¬ (at_ + 8 + 8 + 8 + 8) % 64 = 56 := by omega
  have k5 : ¬ (at_ + 8 + 8 + 8 + 8 + 8) % 64 = 56 := by omega
  have k6 : ¬ (at_ + 8 + 8 + 8 + 8 + 8 + 8) % 64 = 56 := by omega
  have k7 : (at_ + 8 + 8 + 8 + 8 + 8 + 8 + 8) % 64 = 56 := by omega
  have k8 : ¬ (at_ + 64) % 64 = 56 := by omega
  match pages, h with
  | p0 :: p1 :: p2 :: p3 :: p4 :: p5 :: p6 :: p7 :: p8 :: t, _ =>
    simp only [chainFrom, k0, k1, k2, k3, k4, k5, k6, k7, k8, if_false, if_true, List.take_succ_cons, List.take_zero, List.drop_succ_cons, List.drop_zero, List.cons_append, List.nil_append]
    rw [show at_ + 8 + 8 + 8 + 8 + 8 + 8 + 8 + 8 = at_ + 64 by omega, show at_ + 8 + 8 + 8 + 8 + 8 + 8 + 8 + 16 = at_ + 64 + 8 by omega]
theorem Chain.from_ {at_ : Int} {pages nums : List Int} (h : Chain at_ pages nums) : at_ % 64 = 0 → 0 ≤ at_ → at_ + 64 * pages.length ≤ 4611686018427387904 → nums = chainFrom at_ pages := by
  induction h with
  | short at_ pages h => intro h64 _ _; rw [chainFrom_short pages at_ h64 h]
  | long at_ pages rest h hr ih =>
    intro h64 h0 h1
    have e : IntKind.i64.wrap (at_ + 64) = at_ + 64 := IntWalk.i64_in _ (by omega)
    rw [e] at ih ⊢
    rw [chainFrom_long pages at_ h64 h, ih (by omega) (by omega) (by rw [List.length_drop]; omega)]

theorem below_cell_some {W W' : World} (h : Below W.heap.size W W') {p : Addr} {v : Value} (hc : W.cell? p = some v) : W'.cell? p = some v := by
  have hlt : p.block < W.heap.size := by
    rcases Nat.lt_or_ge p.block W.heap.size with q | q
    · exact q
    · simp [World.cell?, Array.getElem?_eq_none q] at hc
  rw [h.cell (p := p) hlt]; exact hc

theorem news_one (W : World) (g : Nat) (v : Value) (hc : W.cell? ⟨g, 0, none⟩ = some v) : ∀ j u, [v][j]? = some u → W.cell? ((⟨g, 0, none⟩ : Addr).add j) = some u := by
  intro j u hj
  match j, hj with
  | 0, hj => simp at hj; subst hj; simpa [Addr.add] using hc
theorem news_nums (W : World) (g off : Nat) (nums : List Int) (hc : ∀ i, i < nums.length → W.cell? ⟨g, off + i, none⟩ = some (.int .i64 (nums.getD i 0))) : ∀ j u, (nums.map (Value.int .i64))[j]? = some u → W.cell? ((⟨g, off, none⟩ : Addr).add j) = some u := by
  intro j u hj
  have hjl : j < nums.length := by have := (List.getElem?_eq_some_iff.1 hj).1; simpa using this
  rw [WideShapes.add_plain, hc j hjl, ← hj]
  simp [List.getD, hjl]

/-- the chain's slice, in an old block or a new one -/
def ChainEnd (at_ : Int) (pages : List Int) (b : Nat) (w : World) (e : Ending) (w' : World) : Prop :=
  ∃ nums gb off c', Chain at_ pages nums ∧ e = .returned (.slice (some ⟨gb, off, none⟩) nums.length c') ∧ Below w.heap.size w w' ∧ nums.length ≤ c' ∧ (gb = b ∨ w.heap.size ≤ gb) ∧ gb < w'.heap.size ∧
    ∀ i, i < nums.length → w'.cell? ⟨gb, off + i, none⟩ = some (.int .i64 (nums.getD i 0))

theorem chain_finish (at_ at2 : Int) (b g cap : Nat) (pages nums : List Int) (xs7 : List Value) (w w' : World) (ha : IntKind.i64.wrap (at_ + 64) = at2) (h8 : 8 < pages.length) (hx : xs7 = (pages.take 7).map (Value.int .i64)) (hch : Chain at2 (pages.drop 7) nums)
    (hown : w'.ownsRow w.heap.size 3 1 (.slice (some ⟨g, 0, none⟩) (8 + nums.length) cap) (8 + nums.length) (xs7 ++ [.int .i64 at2] ++ nums.map (Value.int .i64))) (hb : Below w.heap.size w w') :
    ChainEnd at_ pages b w (.returned (.slice (some ⟨g, 0, none⟩) (8 + nums.length) cap)) w' := by
  subst ha hx
  have hl : (pages.take 7 ++ IntKind.i64.wrap (at_ + 64) :: nums).length = 8 + nums.length := by simp; omega
  have hcap : 8 + nums.length ≤ cap := by
    rcases hown.2 with ⟨h, _⟩ | ⟨g', cap', cur, h, _, _, h2, _⟩
    · cases h
    · cases h; exact h2
  refine ⟨pages.take 7 ++ IntKind.i64.wrap (at_ + 64) :: nums, g, 0, cap, .long _ _ _ h8 hch, by rw [hl], hb, by rw [hl]; exact hcap, .inr (World.ownsRow.lt hown g rfl).1, (World.ownsRow.lt hown g rfl).2, fun i hi => ?_⟩
  rw [hl] at hi
  rw [Nat.zero_add, hown.cellAt i (by omega)]
  have e : (pages.take 7).map (Value.int .i64) ++ [.int .i64 (IntKind.i64.wrap (at_ + 64))] ++ nums.map (Value.int .i64) = (pages.take 7 ++ IntKind.i64.wrap (at_ + 64) :: nums).map (Value.int .i64) := by simp
  rw [e, List.getElem?_map, List.getElem?_eq_getElem (by omega)]
  simp [List.getD, hl, hi]

set_option maxRecDepth 100000 in
set_option maxHeartbeats 16000000 in
theorem chain_any : ∀ (n : Nat) (at_ : Int) (b off c : Nat) (pages : List Int) (w : World), pages.length ≤ n → n ≤ 64 → pages.length ≤ c → b < w.heap.size → -9223372036854775808 ≤ at_ → at_ ≤ 9223372036854775807 →
    (∀ i, i < pages.length → w.cell? ⟨b, off + i, none⟩ = some (.int .i64 (pages.getD i 0))) →
    Calls Tryd.prog 41 #[.int .i64 at_, .slice (some ⟨b, off, none⟩) pages.length c] w (ChainEnd at_ pages b w) := by
  intro n
  induction n with
  | zero =>
    intro at_ b off c pages w hn h64 hc hb a0 a1 hcell
    have h8 : pages.length ≤ 8 := by omega
    have HC := Lib.hid hcell
    clear hcell
    go_enter Tryd.func41, Tryd.ntmps41
    go_wp2
    go_ret
    exact ⟨pages, b, off, c, .short _ _ h8, rfl, Below.refl _ _, hc, .inl rfl, hb, HC.out⟩
  | succ n ih =>
    intro at_ b off c pages w hn h64 hc hb a0 a1 hcell
    have HC := Lib.hid hcell
    clear hcell
    by_cases h8 : pages.length ≤ 8
    · clear ih
      go_enter Tryd.func41, Tryd.ntmps41
      go_wp2
      go_ret
      exact ⟨pages, b, off, c, .short _ _ h8, rfl, Below.refl _ _, hc, .inl rfl, hb, HC.out⟩
    · obtain ⟨i0, hi, hz0', hz1, hz2⟩ := info_parts (P := Tryd.prog) (e := 3) (z := .int .i64 0) (size := 1) (bytes := 8) (by kernel_rfl)
      have Hi := Lib.hid hi
      have Hz0 := Lib.hid hz0'
      have Hz1 := Lib.hid hz1
      have Hz2 := Lib.hid hz2
      clear hi hz0' hz1 hz2
      obtain ⟨at2, hat2⟩ : ∃ x, IntKind.i64.wrap (at_ + 64) = x := ⟨_, rfl⟩
      have hat2b : -9223372036854775808 ≤ at2 ∧ at2 ≤ 9223372036854775807 := by rw [← hat2, IntKind.wrap_i64]; omega
      have hdl : (pages.drop 7).length = pages.length - 7 := List.length_drop ..
      have HIH : Hid (∀ W, Below w.heap.size w W → Calls Tryd.prog 41 #[.int .i64 at2, .slice (some ⟨b, off + 7, none⟩) (pages.length - 7) (c - 7)] W (ChainEnd at2 (pages.drop 7) b W)) := fun W hW => by
        have := ih at2 b (off + 7) (c - 7) (pages.drop 7) W (by omega) (by omega) (by omega) (Nat.lt_of_lt_of_le hb hW.size) hat2b.1 hat2b.2 (fun i hi => by
          rw [hdl] at hi
          rw [hW.cell (p := ⟨b, off + 7 + i, none⟩) hb, Nat.add_assoc, HC.out (7 + i) (by omega)]
          simp [List.getD, List.getElem?_drop])
        rw [hdl] at this
        exact this
      obtain ⟨xs7, hxs7⟩ : ∃ xs7, xs7 = (pages.take 7).map (Value.int .i64) := ⟨_, rfl⟩
      have hx7 : xs7.length = 7 := by rw [hxs7]; simp; omega
      have HC7 : Hid (∀ W, Below w.heap.size w W → ∀ j u, xs7[j]? = some u → W.cell? ((⟨b, off, none⟩ : Addr).add j) = some u) := fun W hW j u hj => by
        have hjl : j < xs7.length := (List.getElem?_eq_some_iff.1 hj).1
        rw [WideShapes.add_plain, hW.cell (p := ⟨b, off + j, none⟩) hb, HC.out j (by omega), ← hj, hxs7]
        simp [List.getD, show j < 7 by omega, show j < pages.length by omega]
      have H71 : Hid (∀ u ∈ xs7, u.oneCell' = true) := fun u hu => by rw [hxs7] at hu; obtain ⟨x, _, rfl⟩ := List.mem_map.1 hu; rfl
      have HX7 := Lib.hid hxs7
      have HXl := Lib.hid (show xs7.length = 7 * 1 from hx7)
      have HA2 := Lib.hid hat2
      have HDl := Lib.hid hdl
      have hc7 : ¬ c = 7 := by omega
      have hb1 : 7 ≤ c := by omega
      have hb2 : 7 ≤ pages.length := by omega
      have hb3 : (7 : Int) ≤ (c : Int) := by omega
      have hb4 : (7 : Int) ≤ (pages.length : Int) := by omega
      have hb5 : ¬ (c : Int) < 7 := by omega
      have hb6 : ¬ (pages.length : Int) < 7 := by omega
      clear ih HC hxs7 hx7 hdl
      go_enter Tryd.func41, Tryd.ntmps41
      go_wp2
      go_region_law (first
        | (refine step_append_lies _ rfl (.const (.slice none 0 0)) (.tmp 10) 51 rfl w.heap.size 3 i0 (.int .i64 0) 1 8 Tryd.underlying51 Hi.out Hz0.out Hz1.out Hz2.out rfl (by decide) (.slice none 0 0) 0 [] rfl (World.ownsRow_nil _ _ _ _) ⟨b, off, none⟩ 7 c xs7 rfl HXl.out (HC7.out _ (by (repeat (first | with_reducible exact Below.refl _ _ | exact hbw20 | exact hbw11 | exact hbw15 | with_reducible apply Below.drew | (with_reducible refine Below.alloc ?_ (by first | (simp; done) | (simp; omega) | omega) _))))) H71.out (by decide) (by decide) (by decide) (by first | (simp; done) | (simp; omega) | omega) _ rfl ?_
           intro g11 cap11 w11 hown11 hgrow11 hat11 hlt11
           have hown11 : w11.ownsRow w.heap.size 3 1 (.slice (some ⟨g11, 0, none⟩) 7 cap11) 7 xs7 := hown11
           have hbw11 : Below w.heap.size w w11 := (show Below w.heap.size w _ by (repeat (first | with_reducible exact Below.refl _ _ | exact hbw20 | exact hbw11 | exact hbw15 | with_reducible apply Below.drew | (with_reducible refine Below.alloc ?_ (by first | (simp; done) | (simp; omega) | omega) _)))).grown hgrow11 (by first | (simp; done) | (simp; omega) | omega) (fun k hk => by cases hk)
           have hge11 := Nat.le_of_eq (hat11.resolve_left (by simp [Value.ownBlock])).symm
           have hs11 := hgrow11.size
           have hw11 := (World.ownsRow.lt hown11 g11 rfl).1
           clear hat11
           try simp at hge11
           try simp at hs11)
        | (refine step_append_lies _ rfl (.tmp 11) (.tmp 14) 51 rfl w.heap.size 3 i0 (.int .i64 0) 1 8 Tryd.underlying51 Hi.out Hz0.out Hz1.out Hz2.out rfl (by decide) (.slice (some ⟨g11, 0, none⟩) 7 cap11) 7 xs7 rfl (by (repeat (first | exact hown11 | with_reducible apply World.ownsRow.alloc | (with_reducible refine own_below ?_ hbel20)))) _ 1 1 [.int .i64 at2] rfl rfl (news_one _ _ _ (by (repeat (first | exact hcell20 _ (by assumption) | (simp; done) | (with_reducible refine Lib.cell?_alloc_some _ ?_) | (with_reducible refine World.grownBy.cell hgrow15 ?_ (by simp [Value.ownBlock]; omega)) | (with_reducible refine World.grownBy.cell hgrow11 ?_ (by simp [Value.ownBlock])) | (with_reducible refine below_cell_some hbel20 ?_))))) (by intro u hu; simp at hu; subst hu; rfl) (by decide) (by decide) (by decide) (by first | (simp; done) | (simp; omega) | omega) _ rfl ?_
           intro g15 cap15 w15 hown15 hgrow15 hat15 hlt15
           have hown15 : w15.ownsRow w.heap.size 3 1 (.slice (some ⟨g15, 0, none⟩) 8 cap15) 8 (xs7 ++ [.int .i64 at2]) := hown15
           have hbw15 : Below w.heap.size w w15 := (show Below w.heap.size w _ by (repeat (first | with_reducible exact Below.refl _ _ | exact hbw20 | exact hbw11 | exact hbw15 | with_reducible apply Below.drew | (with_reducible refine Below.alloc ?_ (by first | (simp; done) | (simp; omega) | omega) _)))).grown hgrow15 (by first | (simp; done) | (simp; omega) | omega) (fun k hk => (World.ownsRow.lt hown11 k hk).1)
           have hs15 := hgrow15.size
           clear hat15
           try simp at hs15)
        | (refine step_append_lies _ rfl (.tmp 15) (.tmp 20) 51 rfl w.heap.size 3 i0 (.int .i64 0) 1 8 Tryd.underlying51 Hi.out Hz0.out Hz1.out Hz2.out rfl (by decide) (.slice (some ⟨g15, 0, none⟩) 8 cap15) 8 (xs7 ++ [.int .i64 at2]) rfl (by (repeat (first | exact hown15 | with_reducible apply World.ownsRow.alloc | (with_reducible refine own_below ?_ hbel20)))) _ nums.length cn (nums.map (Value.int .i64)) rfl (by simp) (news_nums _ _ _ _ (fun i hi => by (repeat (first | exact hcell20 _ (by assumption) | (simp; done) | (with_reducible refine Lib.cell?_alloc_some _ ?_) | (with_reducible refine World.grownBy.cell hgrow15 ?_ (by simp [Value.ownBlock]; omega)) | (with_reducible refine World.grownBy.cell hgrow11 ?_ (by simp [Value.ownBlock])) | (with_reducible refine below_cell_some hbel20 ?_))))) (by intro u hu; obtain ⟨x, _, rfl⟩ := List.mem_map.1 hu; rfl) hpos20 (by unfold maxLen; omega) (by omega) (by first | (simp; done) | (simp; omega) | omega) _ rfl ?_
           intro g21 cap21 w21 hown21 hgrow21 hat21 hlt21
           have hbw21 : Below w.heap.size w w21 := (show Below w.heap.size w _ by (repeat (first | with_reducible exact Below.refl _ _ | exact hbw20 | exact hbw11 | exact hbw15 | with_reducible apply Below.drew | (with_reducible refine Below.alloc ?_ (by first | (simp; done) | (simp; omega) | omega) _)))).grown hgrow21 (by first | (simp; done) | (simp; omega) | omega) (fun k hk => (World.ownsRow.lt hown15 k hk).1)
           clear hat21)
        | (go_simp
           refine (HIH.out _ (by (repeat (first | with_reducible exact Below.refl _ _ | exact hbw20 | exact hbw11 | exact hbw15 | with_reducible apply Below.drew | (with_reducible refine Below.alloc ?_ (by first | (simp; done) | (simp; omega) | omega) _))))).mono ?_
           rintro e w20 ⟨nums, gb, offn, cn, hch, rfl, hbel20, hcap20, hgb20, hlt20, hcell20⟩
           have hbw20 : Below w.heap.size w w20 := (show Below w.heap.size w _ by (repeat (first | with_reducible exact Below.refl _ _ | exact hbw20 | exact hbw11 | exact hbw15 | with_reducible apply Below.drew | (with_reducible refine Below.alloc ?_ (by first | (simp; done) | (simp; omega) | omega) _)))).trans (hbel20.mono (by first | (simp; done) | (simp; omega) | omega))
           have hs20 := hbel20.size
           have hpos20 := hch.pos (by have := HDl.out; omega)
           have hmost20 := hch.most
           rw [HDl.out] at hmost20
           try simp at hgb20
           try simp at hs20))
      all_goals
        have HE := Lib.hid (chain_finish at_ at2 b g21 cap21 pages nums xs7 w w21 HA2.out (by omega) HX7.out hch hown21 hbw21)
        clear hown21 hgrow21 hown15 hgrow15 hown11 hgrow11 hbw11 hbw15 hbw20 hbw21 hcell20 hch hbel20
        go_wp2
        go_ret
        exact HE.out
end Go.Proofs.YtnapgigemdmigaaDoor
