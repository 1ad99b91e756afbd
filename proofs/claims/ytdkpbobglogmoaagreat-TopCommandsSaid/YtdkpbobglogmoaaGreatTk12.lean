/- Parts of the proof of TopCommandsProof: PoolAddN PoolAddP PoolWait PoolWg. -/
import Derived.Conc.WgGenN
import Derived.Conc.WgGenN2
import Derived.Conc.WgGenN3
import Derived.Test.YtdkpbobglogmoaaGreatProg
import Derived.Conc.WgGenW
import Derived.Test.YtdkpbobglogmoaaGreatTk11
set_option linter.unusedVariables false
set_option linter.unusedSimpArgs false
set_option maxRecDepth 100000
set_option maxHeartbeats 32000000
namespace Go.Proofs.YtdkpbobglogmoaaGreat
open Go Go.Conc Go.RowKit Go.Conc.Lib Go.ConcR.Gen Go.ConcN.Gen
open Go.ConcR (KK wgBlock WgAt stA smA rd wr mk DC0)
open Go.ConcN (sumTo WgLive)
namespace Pool
open Ren (Loc.blk Rely Gt Gk Rk Terms Did EvO New With)
theorem hush0 (c : Cfg) : ¬ c.T0.Hush := fun h => h
theorem hushC (c : Cfg) : ¬ c.Tc.Hush := fun h => h
theorem hushM (c : Cfg) : ¬ c.Tm.Hush := fun h => h
theorem rlv {A B : Prop} (h : A) (r : A → B) : B := r h
theorem Gt.of_goes2 {T : Terms} {Stop : Stp} {d : Nat} {O : Nat → Prop} {g : Goroutine} {w : World} {n : Nat} (hL : T.Liv w) (h : Goes T.P T.main (fun w w1 => T.Liv w → T.Liv w1) DC0 (fun g' w1 => T.Liv w1 → Gt T Stop d O g' w1) n g w) : Gt T Stop d O g w :=
  Ren.Gt.of_goes hL h fun g' w1 hs hL _ => hs hL
theorem Cfg.Liv.ne {c : Cfg} {w : World} (h : c.Liv w) : c.Wg ≠ c.A ∧ c.Wg ≠ c.C ∧ c.A ≠ c.C := by
  obtain ⟨⟨st, sm, h1⟩, ⟨v, h2⟩, buf, cl, s, r, h3⟩ := h
  unfold WgAt wgBlock at h1
  unfold CtAt at h2
  unfold ChAt at h3
  refine ⟨fun e => ?_, fun e => ?_, fun e => ?_⟩
  · rw [e, h2] at h1; simp at h1
  · rw [e, h3] at h1; simp at h1
  · rw [e, h3] at h2; simp at h2
theorem Cfg.Liv.set {c : Cfg} {w w' : World} (h : c.Liv w) {st sm : Int} (hw : WgAt c.ty c.Wg w' st sm) (hk : ∀ b, b ≠ c.Wg → w'.heap[b]? = w.heap[b]?) : c.Liv w' := by
  obtain ⟨n1, n2, _⟩ := h.ne
  obtain ⟨_, ⟨v, h2⟩, buf, cl, s, r, h3⟩ := h
  exact ⟨⟨st, sm, hw⟩, ⟨v, (hk _ (Ne.symm n1)).trans h2⟩, buf, cl, s, r, (hk _ (Ne.symm n2)).trans h3⟩
theorem setCell_other (w : World) (a : Addr) (v : Value) {b : Nat} (h : b ≠ a.block) : (w.setCell a v).heap[b]? = w.heap[b]? := by
  unfold World.setCell
  simp only
  rw [Array.getElem?_modify, if_neg (fun e => h e.symm)]
theorem Cfg.Liv.setSt {c : Cfg} {w : World} (h : c.Liv w) {st sm : Int} (hw : WgAt c.ty c.Wg w st sm) (st' : Int) : c.Liv (w.setCell (stA c.Wg) (.int .u64 st')) :=
  h.set (hw.setSt st') fun b hb => setCell_other _ _ _ hb
theorem addNeg {L : WgLink} {P₀ : Program} (H : WgLib P₀ L) {c : Cfg} (hP : c.P = P₀) (hty : c.ty = L.tWg) {b₀ : Frame} {a₀ : Act} {ops₀ : Array Oper} {i₀ : Nat} {rest₀ : List Nat} {k₀ : List Item} {cs : List Frame} {qt : Nat} {O : Nat → Prop}
    (hT : QuitsD c.P qt 0 (G (b₀.at (a₀.put ((ops₀[i₀]?).bind (·.dst)) (.tuple #[])) (.inRegion ops₀ rest₀ :: k₀)) cs)) (w : World) (hF : c.Liv w) :
    Gt c.Tw (AtRel c) 0 O (G ((base L.add).at ⟨#[.pointer (some ⟨c.Wg, 0, none⟩), .int .i64 (-1), undef, undef, undef, undef, undef, undef, undef, undef, undef, undef, undef, undef, undef, undef, undef, undef, undef, undef, undef, undef, undef, undef, undef, undef, undef, undef, undef, undef, undef, undef, undef, undef, undef, undef, undef, undef, undef, undef, undef, undef, undef, undef, undef, undef, undef, undef, undef, undef, undef, undef, undef, undef, undef, undef, undef, undef, undef, undef, undef, undef, undef, undef, undef, undef, undef, undef, undef, undef, undef, undef, undef, undef, undef, undef, undef, undef, undef, undef, undef, undef, undef, undef, undef, undef, undef, undef, undef, undef, undef, undef, undef, undef, undef, undef, undef, undef, undef, undef, undef, undef, undef, undef, undef, undef, undef, undef, undef, undef, undef, undef, undef, undef, undef, undef, undef], []⟩ [.code (body_add L)]) (b₀.at a₀ (.inRegion ops₀ (i₀ :: rest₀) :: k₀) :: cs)) w := by
  obtain ⟨P, ty, aty, Wg, A, C, n, N, bb, Cold, Item, Lp, Mp, Fin, ChC, Anc⟩ := c
  simp only at hP hty
  subst hP hty
  lib_facts
  simp only [body_add, addFn, Option.getD_some]
  refine Gt.of_goes2 (n := 30) hF ?_
  show Goes P false _ _ _ _ _ _
  u_c stepG_seq rlv hF
  u_cond true rlv hF
  u_c stepG_seq rlv hF
  u_c stepG_seq rlv hF
  u_reg rlv hF
  u_op rlv hF
  u_op rlv hF
  u_c stepG_region_end rlv hF
  u_cond true rlv hF
  u_reg rlv hF
  u_op rlv hF
  u_conv H.underlying_tWgP H.room_tWg (WgLive.cell0 (show WgLive L.tWg Wg _ from hF.1)).choose_spec rlv hF
  refine Goes.stop (fun w₁ h₁ => ?_)
  replace hF := rlv hF h₁
  clear h₁
  intro _
  refine .stop fun w₂ r₂ => ?_
  replace hF := r₂.liv hF
  clear r₂
  refine ⟨rfl, rfl, _, stepG_markAt .releaseMerge (by simp) rfl rfl (by k_ne) rfl H.f_relMerge (x_relMerge_n L) (x_relMerge_b L) (x_relMerge_x L) (x_relMerge_f L) (by simp [Act.eval, stA]), ?_⟩
  walk_nrm
  refine Gt.of_goes2 (n := 10) hF ?_
  show Goes P false _ _ _ _ _ _
  u_c stepG_region_end rlv hF
  u_c stepG_seq rlv hF
  u_reg rlv hF
  refine Goes.stop (fun w₃ h₃ => ?_)
  replace hF := rlv hF h₃
  clear h₃
  intro _
  refine Ren.Gt.mark (m := .disable) ⟨by simp, by simp, by simp, by simp⟩ hF (hush0 _) rfl (fun w₄ r => stepG_mark0 .disable (by simp) rfl rfl (by k_ne) rfl H.f_disable (x_disable_n L) (x_disable_b L) (x_disable_x L) (x_disable_f L)) ?_
  rw [show deafBehind 0 #[⟨.mark .disable, false, true⟩] = 1 from rfl]
  walk_nrm
  refine Gt.of_goes2 (n := 60) hF ?_
  show Goes P false _ _ _ _ _ _
  u_c stepG_region_end rlv hF
  u_reg rlv hF
  u_defer rlv hF
  u_c stepG_region_end rlv hF
  u_c stepG_seq rlv hF
  u_reg rlv hF
  u_op rlv hF
  u_c stepG_region_end rlv hF
  u_c stepG_seq rlv hF
  u_c stepG_seq rlv hF
  u_reg rlv hF
  u_bub rlv hF
  u_c stepG_region_end rlv hF
  u_cond false rlv hF
  u_c stepG_skip rlv hF
  u_c stepG_seq rlv hF
  u_reg rlv hF
  u_op rlv hF
  u_op rlv hF
  u_op rlv hF
  u_op rlv hF
  u_op rlv hF
  u_op rlv hF
  u_call H.f_uAdd (nm_uAdd L) uAddFn rlv hF
  u_c stepG_seq rlv hF
  u_reg rlv hF
  u_op rlv hF
  u_c stepG_region_end rlv hF
  u_c stepG_seq rlv hF
  u_reg rlv hF
  u_op rlv hF
  u_op rlv hF
  u_op rlv hF
  u_op rlv hF
  refine Goes.stop (fun w₁ h₁ => ?_)
  replace hF := rlv hF h₁
  clear h₁
  intro _
  refine .stop fun w₁ r₁ => ?_
  replace hF := r₁.liv hF
  clear r₁
  refine ⟨rfl, rfl, fun v wt hv1 hv hwt hw => ?_⟩
  obtain ⟨v, rfl⟩ : ∃ u, v = u + 1 := ⟨v - 1, by omega⟩
  rw [Nat.add_sub_cancel]
  have e0 : IntKind.u64.wrap (KK + 18446744069414584320) = 0 := by decide
  have e1 : IntKind.u64.wrap (KK + 1 + 18446744069414584320) = 1 := by decide
  rcases Nat.eq_zero_or_pos v with rfl | hvp <;> (obtain rfl | rfl : wt = 0 ∨ wt = 1 := by omega)
  · replace hw : WgAt L.tWg Wg w₁ KK 0 := by simpa using hw
    have z : ((0 : Nat) : Int) * KK + ((0 : Nat) : Int) = 0 := by simp
    rw [z]
    refine ⟨_, (stepG_add_atomic rfl rfl (by k_ne) rfl H.f_addU64 (x_addU64_n L) (x_addU64_b L) (x_addU64_x L) .u64 (x_addU64_f L) rfl rfl hw.cellSt (hw.thaw 0)).trans (by rw [e0]; rfl), fun hl => absurd hl.2 (by decide), fun _ => ⟨qt + 89, ?_⟩⟩
    clear hw
    walk_nrm
    q_val (.int .u64 0)
    q_c stepG_region_end
    q_c stepG_ret'
    q_leave1 H.f_uAdd
    q_val (.int .u64 0)
    q_c stepG_region_end
    q_c stepG_seq
    q_c stepG_seq
    q_reg
    q_val (.int .u64 0)
    q_val (.int .u64 0)
    q_val (.bool false)
    q_val (.bool false)
    q_skip
    q_skip
    q_val (.bool false)
    q_c stepG_region_end
    q_cond false
    q_c stepG_skip
    q_c stepG_seq
    q_reg
    q_val (.int .u64 0)
    q_val (.int .u64 0)
    q_val (.int .i32 0)
    q_val (.int .i32 0)
    q_c stepG_region_end
    q_c stepG_seq
    q_reg
    q_val (.int .u64 0)
    q_val (.int .u64 0)
    q_val (.int .u32 0)
    q_val (.int .u32 0)
    q_c stepG_region_end
    q_c stepG_seq
    q_c stepG_seq
    q_reg
    q_val (.bool true)
    q_val (.int .i64 (-1))
    q_val (.bool false)
    q_val (.bool false)
    q_val (.bool false)
    q_skip
    q_skip
    q_skip
    q_skip
    q_val (.bool false)
    q_c stepG_region_end
    q_cond false
    q_c stepG_skip
    q_c stepG_seq
    q_c stepG_seq
    q_reg
    q_val (.int .i32 0)
    q_val (.bool false)
    q_c stepG_region_end
    q_cond false
    q_c stepG_skip
    q_c stepG_seq
    q_c stepG_seq
    q_reg
    q_val (.int .u32 0)
    q_val (.bool false)
    q_val (.bool false)
    q_skip
    q_skip
    q_val (.bool false)
    q_val (.bool false)
    q_skip
    q_skip
    q_skip
    q_skip
    q_val (.bool false)
    q_c stepG_region_end
    q_cond false
    q_c stepG_skip
    q_c stepG_seq
    q_c stepG_seq
    q_reg
    q_val (.int .i32 0)
    q_val (.bool false)
    q_val (.bool false)
    q_val (.int .u32 0)
    q_val (.bool true)
    q_val (.bool true)
    q_c stepG_region_end
    q_cond true
    q_c stepG_ret'
    q_enable
    q_leave0 H.f_add
    exact hT
  · replace hw : WgAt L.tWg Wg w₁ (KK + 1) 0 := by simpa using hw
    have z : ((0 : Nat) : Int) * KK + ((1 : Nat) : Int) = 1 := by simp
    rw [z]
    refine ⟨_, (stepG_add_atomic rfl rfl (by k_ne) rfl H.f_addU64 (x_addU64_n L) (x_addU64_b L) (x_addU64_x L) .u64 (x_addU64_f L) rfl rfl hw.cellSt (hw.thaw 0)).trans (by rw [e1]; rfl), fun _ => ?_, fun hl => absurd ⟨rfl, rfl⟩ hl⟩
    replace hF := Cfg.Liv.setSt hF hw 1
    clear hw
    walk_nrm
    refine Gt.of_goes2 (n := 150) hF ?_
    show Goes P false _ _ _ _ _ _
    u_op rlv hF
    u_c stepG_region_end rlv hF
    u_c stepG_ret' rlv hF
    u_leave1 H.f_uAdd rlv hF
    u_op rlv hF
    u_c stepG_region_end rlv hF
    u_c stepG_seq rlv hF
    u_c stepG_seq rlv hF
    u_reg rlv hF
    u_op rlv hF
    u_op rlv hF
    u_op rlv hF
    u_op rlv hF
    u_skip rlv hF
    u_skip rlv hF
    u_op rlv hF
    u_c stepG_region_end rlv hF
    u_cond false rlv hF
    u_c stepG_skip rlv hF
    u_c stepG_seq rlv hF
    u_reg rlv hF
    u_op rlv hF
    u_op rlv hF
    u_op rlv hF
    u_op rlv hF
    u_c stepG_region_end rlv hF
    u_c stepG_seq rlv hF
    u_reg rlv hF
    u_op rlv hF
    u_op rlv hF
    u_op rlv hF
    u_op rlv hF
    u_c stepG_region_end rlv hF
    u_c stepG_seq rlv hF
    u_c stepG_seq rlv hF
    u_reg rlv hF
    u_op rlv hF
    u_op rlv hF
    u_op rlv hF
    u_op rlv hF
    u_op rlv hF
    u_skip rlv hF
    u_skip rlv hF
    u_skip rlv hF
    u_skip rlv hF
    u_op rlv hF
    u_c stepG_region_end rlv hF
    u_cond false rlv hF
    u_c stepG_skip rlv hF
    u_c stepG_seq rlv hF
    u_c stepG_seq rlv hF
    u_reg rlv hF
    u_op rlv hF
    u_op rlv hF
    u_c stepG_region_end rlv hF
    u_cond false rlv hF
    u_c stepG_skip rlv hF
    u_c stepG_seq rlv hF
    u_c stepG_seq rlv hF
    u_reg rlv hF
    u_op rlv hF
    u_op rlv hF
    u_op rlv hF
    u_op rlv hF
    u_op rlv hF
    u_op rlv hF
    u_op rlv hF
    u_skip rlv hF
    u_skip rlv hF
    u_skip rlv hF
    u_skip rlv hF
    u_op rlv hF
    u_c stepG_region_end rlv hF
    u_cond false rlv hF
    u_c stepG_skip rlv hF
    u_c stepG_seq rlv hF
    u_c stepG_seq rlv hF
    u_reg rlv hF
    u_op rlv hF
    u_op rlv hF
    u_op rlv hF
    u_op rlv hF
    u_op rlv hF
    u_op rlv hF
    u_c stepG_region_end rlv hF
    u_cond false rlv hF
    u_c stepG_skip rlv hF
    u_c stepG_seq rlv hF
    u_c stepG_seq rlv hF
    u_reg rlv hF
    u_op rlv hF
    u_op rlv hF
    u_op rlv hF
    u_call H.f_uLoad (nm_uLoad L) uLoadFn rlv hF
    u_c stepG_seq rlv hF
    u_reg rlv hF
    u_op rlv hF
    u_c stepG_region_end rlv hF
    u_c stepG_seq rlv hF
    u_reg rlv hF
    u_op rlv hF
    u_op rlv hF
    u_op rlv hF
    refine Goes.stop (fun w₂ h₂ => ?_)
    replace hF := rlv hF h₂
    clear h₂
    intro _
    refine .stop fun w₂ r => ?_
    replace hF := r.liv hF
    clear r
    refine ⟨rfl, rfl, fun hw => ⟨_, stepG_load_atomic rfl rfl (by k_ne) rfl H.f_loadU64 (x_loadU64_n L) (x_loadU64_b L) (x_loadU64_x L) .u64 (x_loadU64_f L) rfl hw.cellSt, ?_⟩⟩
    clear hw
    walk_nrm
    refine Gt.of_goes2 (n := 50) hF ?_
    show Goes P false _ _ _ _ _ _
    u_op rlv hF
    u_c stepG_region_end rlv hF
    u_c stepG_ret' rlv hF
    u_leave1 H.f_uLoad rlv hF
    u_op rlv hF
    u_op rlv hF
    u_c stepG_region_end rlv hF
    u_cond false rlv hF
    u_c stepG_skip rlv hF
    u_c stepG_seq rlv hF
    u_reg rlv hF
    u_op rlv hF
    u_op rlv hF
    u_op rlv hF
    u_call H.f_uStore (nm_uStore L) uStoreFn rlv hF
    u_reg rlv hF
    u_op rlv hF
    u_op rlv hF
    u_op rlv hF
    u_op rlv hF
    refine Goes.stop (fun w₃ h₃ => ?_)
    replace hF := rlv hF h₃
    clear h₃
    intro _
    refine .stop fun w₃ r => ?_
    replace hF := r.liv hF
    clear r
    refine ⟨rfl, rfl, fun hw => ⟨_, stepG_store_atomic rfl rfl (by k_ne) rfl H.f_storeU64 (x_storeU64_n L) (x_storeU64_b L) (x_storeU64_x L) (x_storeU64_f L) rfl rfl hw.cellSt (hw.thaw 0), ?_⟩⟩
    replace hF := Cfg.Liv.setSt hF hw 0
    clear hw
    walk_nrm
    refine Gt.of_goes2 (n := 50) hF ?_
    show Goes P false _ _ _ _ _ _
    u_c stepG_region_end rlv hF
    u_c stepG_end rlv hF
    u_leave0 H.f_uStore rlv hF
    u_c stepG_region_end rlv hF
    u_c stepG_seq rlv hF
    u_c stepG_seq rlv hF
    u_reg rlv hF
    u_op rlv hF
    u_c stepG_region_end rlv hF
    u_cond false rlv hF
    u_c stepG_skip rlv hF
    u_c stepG_block rlv hF
    u_c stepG_loop rlv hF
    u_c stepG_seq rlv hF
    u_c stepG_seq rlv hF
    u_reg rlv hF
    u_op rlv hF
    u_op rlv hF
    u_c stepG_region_end rlv hF
    u_cond true rlv hF
    u_c stepG_skip rlv hF
    u_c stepG_seq rlv hF
    u_c stepG_block rlv hF
    u_reg rlv hF
    u_op rlv hF
    u_op rlv hF
    u_op rlv hF
    refine Goes.stop (fun w₄ h₄ => ?_)
    clear h₄ hF
    intro _
    refine .stop fun w₄ r => ?_
    clear r
    refine ⟨rfl, rfl, mayWake_entry rfl rfl H.f_semrelease (x_semrelease_b L), fun hw => ⟨_, qt + 19, (stepG_semrelease rfl rfl (by k_ne) rfl H.f_semrelease (x_semrelease_n L) (x_semrelease_b L) (x_semrelease_x L) (x_semrelease_f L) (by simp [Act.eval, smA]) hw.cellSm (hw.thaw 1)).trans (by rfl), ?_⟩⟩
    clear hw
    walk_nrm
    q_c stepG_region_end
    q_c stepG_inBlock
    q_reg
    q_val (.int .u32 1)
    q_val (.int .u32 0)
    q_val (.int .u32 0)
    q_c stepG_region_end
    q_c stepG_inLoop
    q_c stepG_seq
    q_c stepG_seq
    q_reg
    q_val (.int .u32 0)
    q_val (.bool false)
    q_c stepG_region_end
    q_cond false
    q_exit
    q_c stepG_end
    q_enable
    q_leave0 H.f_add
    exact hT
  · replace hw : WgAt L.tWg Wg w₁ (((v : Nat) + 1) * KK + 0) 0 := by simpa using hw
    have z : ((v : Nat) : Int) * KK + ((0 : Nat) : Int) = (v : Int) * KK + 0 := by simp
    rw [z]
    have eS : IntKind.u64.wrap (((v : Nat) + 1) * KK + 0 + 18446744069414584320) = (v : Int) * KK + 0 := by rw [IntKind.wrap_u64]; simp only [KK]; omega
    obtain ⟨S, hS⟩ : ∃ S : Int, S = (v : Int) * KK + 0 := ⟨_, rfl⟩
    rw [← hS] at eS ⊢
    have a1 : S / 4294967296 = (v : Int) := by rw [hS]; simp only [KK]; omega
    have a2 : 0 ≤ S ∧ S < 9223372036854775808 := by rw [hS]; simp only [KK]; omega
    have b1 : bits .and .u64 S 2147483648 = 0 := by rw [hS]; have := Go.ConcN.st_flag v 0 (by omega) (by omega); simpa [KK] using this
    have b2 : bits .and .u64 S 2147483647 = 0 := by rw [hS]; have := Go.ConcN.st_waiters v 0 (by omega) (by omega); simpa [KK] using this
    clear hS z
    refine ⟨_, (stepG_add_atomic rfl rfl (by k_ne) rfl H.f_addU64 (x_addU64_n L) (x_addU64_b L) (x_addU64_x L) .u64 (x_addU64_f L) rfl rfl hw.cellSt (hw.thaw 0)).trans (by rw [eS]; rfl), fun hl => absurd hl.1 (by omega), fun _ => ⟨qt + 89, ?_⟩⟩
    clear hw
    walk_nrm
    q_vn (.int .u64 S)
    q_c stepG_region_end
    q_c stepG_ret'
    q_leave1 H.f_uAdd
    q_vn (.int .u64 S)
    q_c stepG_region_end
    q_c stepG_seq
    q_c stepG_seq
    q_reg
    q_vn (.int .u64 S)
    q_vn (.int .u64 0)
    q_vn (.bool false)
    q_vn (.bool false)
    q_skip
    q_skip
    q_vn (.bool false)
    q_c stepG_region_end
    q_cond false
    q_c stepG_skip
    q_c stepG_seq
    q_reg
    q_vn (.int .u64 S)
    q_vn (.int .u64 (v : Int))
    q_vn (.int .i32 (v : Int))
    q_vn (.int .i32 (v : Int))
    q_c stepG_region_end
    q_c stepG_seq
    q_reg
    q_vn (.int .u64 S)
    q_vn (.int .u64 0)
    q_vn (.int .u32 0)
    q_vn (.int .u32 0)
    q_c stepG_region_end
    q_c stepG_seq
    q_c stepG_seq
    q_reg
    q_vn (.bool true)
    q_vn (.int .i64 (-1))
    q_vn (.bool false)
    q_vn (.bool false)
    q_vn (.bool false)
    q_skip
    q_skip
    q_skip
    q_skip
    q_vn (.bool false)
    q_c stepG_region_end
    q_cond false
    q_c stepG_skip
    q_c stepG_seq
    q_c stepG_seq
    q_reg
    q_vn (.int .i32 (v : Int))
    q_vn (.bool false)
    q_c stepG_region_end
    q_cond false
    q_c stepG_skip
    q_c stepG_seq
    q_c stepG_seq
    q_reg
    q_vn (.int .u32 0)
    q_vn (.bool false)
    q_vn (.bool false)
    q_skip
    q_skip
    q_vn (.bool false)
    q_vn (.bool false)
    q_skip
    q_skip
    q_skip
    q_skip
    q_vn (.bool false)
    q_c stepG_region_end
    q_cond false
    q_c stepG_skip
    q_c stepG_seq
    q_c stepG_seq
    q_reg
    q_vn (.int .i32 (v : Int))
    q_vn (.bool true)
    q_vn (.bool true)
    q_skip
    q_skip
    q_vn (.bool true)
    q_c stepG_region_end
    q_cond true
    q_c stepG_ret'
    q_enable
    q_leave0 H.f_add
    exact hT
  · replace hw : WgAt L.tWg Wg w₁ (((v : Nat) + 1) * KK + 1) 0 := by simpa using hw
    have z : ((v : Nat) : Int) * KK + ((1 : Nat) : Int) = (v : Int) * KK + 1 := by simp
    rw [z]
    have eS : IntKind.u64.wrap (((v : Nat) + 1) * KK + 1 + 18446744069414584320) = (v : Int) * KK + 1 := by rw [IntKind.wrap_u64]; simp only [KK]; omega
    obtain ⟨S, hS⟩ : ∃ S : Int, S = (v : Int) * KK + 1 := ⟨_, rfl⟩
    rw [← hS] at eS ⊢
    have a1 : S / 4294967296 = (v : Int) := by rw [hS]; simp only [KK]; omega
    have a2 : 0 ≤ S ∧ S < 9223372036854775808 := by rw [hS]; simp only [KK]; omega
    have b1 : bits .and .u64 S 2147483648 = 0 := by rw [hS]; have := Go.ConcN.st_flag v 1 (by omega) (by omega); simpa [KK] using this
    have b2 : bits .and .u64 S 2147483647 = 1 := by rw [hS]; have := Go.ConcN.st_waiters v 1 (by omega) (by omega); simpa [KK] using this
    clear hS z
    refine ⟨_, (stepG_add_atomic rfl rfl (by k_ne) rfl H.f_addU64 (x_addU64_n L) (x_addU64_b L) (x_addU64_x L) .u64 (x_addU64_f L) rfl rfl hw.cellSt (hw.thaw 0)).trans (by rw [eS]; rfl), fun hl => absurd hl.1 (by omega), fun _ => ⟨qt + 89, ?_⟩⟩
    clear hw
    walk_nrm
    q_vn (.int .u64 S)
    q_c stepG_region_end
    q_c stepG_ret'
    q_leave1 H.f_uAdd
    q_vn (.int .u64 S)
    q_c stepG_region_end
    q_c stepG_seq
    q_c stepG_seq
    q_reg
    q_vn (.int .u64 S)
    q_vn (.int .u64 0)
    q_vn (.bool false)
    q_vn (.bool false)
    q_skip
    q_skip
    q_vn (.bool false)
    q_c stepG_region_end
    q_cond false
    q_c stepG_skip
    q_c stepG_seq
    q_reg
    q_vn (.int .u64 S)
    q_vn (.int .u64 (v : Int))
    q_vn (.int .i32 (v : Int))
    q_vn (.int .i32 (v : Int))
    q_c stepG_region_end
    q_c stepG_seq
    q_reg
    q_vn (.int .u64 S)
    q_vn (.int .u64 1)
    q_vn (.int .u32 1)
    q_vn (.int .u32 1)
    q_c stepG_region_end
    q_c stepG_seq
    q_c stepG_seq
    q_reg
    q_vn (.bool true)
    q_vn (.int .i64 (-1))
    q_vn (.bool false)
    q_vn (.bool false)
    q_vn (.bool false)
    q_skip
    q_skip
    q_skip
    q_skip
    q_vn (.bool false)
    q_c stepG_region_end
    q_cond false
    q_c stepG_skip
    q_c stepG_seq
    q_c stepG_seq
    q_reg
    q_vn (.int .i32 (v : Int))
    q_vn (.bool false)
    q_c stepG_region_end
    q_cond false
    q_c stepG_skip
    q_c stepG_seq
    q_c stepG_seq
    q_reg
    q_vn (.int .u32 1)
    q_vn (.bool true)
    q_vn (.bool true)
    q_vn (.int .i64 (-1))
    q_vn (.bool false)
    q_vn (.bool false)
    q_vn (.bool false)
    q_skip
    q_skip
    q_skip
    q_skip
    q_vn (.bool false)
    q_c stepG_region_end
    q_cond false
    q_c stepG_skip
    q_c stepG_seq
    q_c stepG_seq
    q_reg
    q_vn (.int .i32 (v : Int))
    q_vn (.bool true)
    q_vn (.bool true)
    q_skip
    q_skip
    q_vn (.bool true)
    q_c stepG_region_end
    q_cond true
    q_c stepG_ret'
    q_enable
    q_leave0 H.f_add
    exact hT
end Pool
end Go.Proofs.YtdkpbobglogmoaaGreat
namespace Go.Proofs.YtdkpbobglogmoaaGreat
open Go Go.Conc Go.RowKit Go.Conc.Lib Go.ConcR.Gen Go.ConcN.Gen
open Go.ConcR (KK wgBlock WgAt stA smA rd wr mk DC0)
open Go.ConcN (sumTo WgLive)
namespace Pool
open Ren (Loc.blk Rely Gt Gk Rk Terms Did EvO New With)
theorem Gt.of_goes3 {T : Terms} {Stop : Stp} {d : Nat} {O : Nat → Prop} {g : Goroutine} {w : World} {n : Nat} (hL : T.Liv w) (h : Goes T.P T.main (fun w w1 => T.Liv w → T.Liv w1) DC0 (fun g' w1 => T.Liv w1 → Rely T.Cold T.Liv O w w1 → Gt T Stop d O g' w1) n g w) : Gt T Stop d O g w :=
  Ren.Gt.of_goes hL h fun g' w1 hs hL r => hs hL r
theorem rely_set {c : Cfg} {O : Nat → Prop} {w : World} {off : Nat} {v : Value} (h : c.Liv w → c.Liv (w.setCell ⟨c.Wg, off, none⟩ v)) (hO : ¬ O c.Wg) (hC : ¬ c.Cold c.Wg) : Rely c.Cold c.Liv O w (w.setCell ⟨c.Wg, off, none⟩ v) :=
  ⟨by simp [World.setCell], fun b hb => setCell_other _ _ _ fun e => hO (by rw [← show b = c.Wg from e]; exact hb), fun b hb => setCell_other _ _ _ fun e => hC (by rw [← show b = c.Wg from e]; exact hb), ⟨rfl, rfl⟩, h⟩
theorem addPos {L : WgLink} {P₀ : Program} (H : WgLib P₀ L) {c : Cfg} (hP : c.P = P₀) (hty : c.ty = L.tWg) {b₀ : Frame} {a₀ : Act} {ops₀ : Array Oper} {i₀ : Nat} {rest₀ : List Nat} {k₀ : List Item} {cs : List Frame} {O : Nat → Prop} {Next : Stp} (hO : ¬ O c.Wg) (hC : ¬ c.Cold c.Wg) (w₀ : World)
    (hT : ∀ w', Rely c.Cold c.Liv O w₀ w' → Gt c.Tm Next 0 O (G (b₀.at (a₀.put ((ops₀[i₀]?).bind (·.dst)) (.tuple #[])) (.inRegion ops₀ rest₀ :: k₀)) cs) w') (w : World) (hF : c.Liv w) (hR : Rely c.Cold c.Liv O w₀ w) :
    Gt c.Tm (AtAddS c Next) 0 O (G ((base L.add).at ⟨#[.pointer (some ⟨c.Wg, 0, none⟩), .int .i64 1, undef, undef, undef, undef, undef, undef, undef, undef, undef, undef, undef, undef, undef, undef, undef, undef, undef, undef, undef, undef, undef, undef, undef, undef, undef, undef, undef, undef, undef, undef, undef, undef, undef, undef, undef, undef, undef, undef, undef, undef, undef, undef, undef, undef, undef, undef, undef, undef, undef, undef, undef, undef, undef, undef, undef, undef, undef, undef, undef, undef, undef, undef, undef, undef, undef, undef, undef, undef, undef, undef, undef, undef, undef, undef, undef, undef, undef, undef, undef, undef, undef, undef, undef, undef, undef, undef, undef, undef, undef, undef, undef, undef, undef, undef, undef, undef, undef, undef, undef, undef, undef, undef, undef, undef, undef, undef, undef, undef, undef, undef, undef, undef, undef, undef, undef], []⟩ [.code (body_add L)]) (b₀.at a₀ (.inRegion ops₀ (i₀ :: rest₀) :: k₀) :: cs)) w := by
  obtain ⟨P, ty, aty, Wg, A, C, n, N, bb, Cold, Item, Lp, Mp, Fin, ChC, Anc⟩ := c
  simp only at hP hty
  subst hP hty
  lib_facts
  simp only [body_add, addFn, Option.getD_some]
  refine Gt.of_goes3 (n := 20) hF ?_
  show Goes P true _ _ _ _ _ _
  u_c stepG_seq rlv hF
  u_cond true rlv hF
  u_c stepG_seq rlv hF
  u_c stepG_seq rlv hF
  u_reg rlv hF
  u_op rlv hF
  u_op rlv hF
  u_c stepG_region_end rlv hF
  u_cond false rlv hF
  u_c stepG_skip rlv hF
  u_c stepG_seq rlv hF
  u_reg rlv hF
  refine Goes.stop (fun w₁ h₁ => ?_)
  replace hF := rlv hF h₁
  clear h₁
  intro _ r₁
  replace hR := hR.trans r₁
  clear r₁
  refine Ren.Gt.mark (m := .disable) ⟨by simp, by simp, by simp, by simp⟩ hF (hushM _) rfl (fun w₄ r => stepG_mark0 .disable (by simp) rfl rfl (by k_ne) rfl H.f_disable (x_disable_n L) (x_disable_b L) (x_disable_x L) (x_disable_f L)) ?_
  rw [show deafBehind 0 #[⟨.mark .disable, false, true⟩] = 1 from rfl]
  walk_nrm
  refine Gt.of_goes3 (n := 60) hF ?_
  show Goes P true _ _ _ _ _ _
  u_c stepG_region_end rlv hF
  u_reg rlv hF
  u_defer rlv hF
  u_c stepG_region_end rlv hF
  u_c stepG_seq rlv hF
  u_reg rlv hF
  u_op rlv hF
  u_c stepG_region_end rlv hF
  u_c stepG_seq rlv hF
  u_c stepG_seq rlv hF
  u_reg rlv hF
  u_bub rlv hF
  u_c stepG_region_end rlv hF
  u_cond false rlv hF
  u_c stepG_skip rlv hF
  u_c stepG_seq rlv hF
  u_reg rlv hF
  u_op rlv hF
  u_op rlv hF
  u_op rlv hF
  u_op rlv hF
  u_op rlv hF
  u_op rlv hF
  u_call H.f_uAdd (nm_uAdd L) uAddFn rlv hF
  u_c stepG_seq rlv hF
  u_reg rlv hF
  u_op rlv hF
  u_c stepG_region_end rlv hF
  u_c stepG_seq rlv hF
  u_reg rlv hF
  u_op rlv hF
  u_op rlv hF
  u_op rlv hF
  u_op rlv hF
  refine Goes.stop (fun w₁ h₁ => ?_)
  replace hF := rlv hF h₁
  clear h₁
  intro _ r₁
  replace hR := hR.trans r₁
  clear r₁
  refine .stop fun w₂ r₂ => ?_
  replace hF := r₂.liv hF
  replace hR := hR.trans r₂
  clear r₂
  refine ⟨rfl, rfl, fun v hv hw => ?_⟩
  rcases Nat.eq_zero_or_pos v with rfl | hvp
  · replace hw : WgAt L.tWg Wg w₂ 0 0 := by simpa using hw
    have z : ((0 + 1 : Nat) : Int) * KK = KK := by simp
    rw [z]
    have e0 : IntKind.u64.wrap (0 + 4294967296) = KK := by decide
    refine ⟨_, (stepG_add_atomic rfl rfl (by k_ne) rfl H.f_addU64 (x_addU64_n L) (x_addU64_b L) (x_addU64_x L) .u64 (x_addU64_f L) rfl rfl hw.cellSt (hw.thaw 0)).trans (by rw [e0]; rfl), ?_⟩
    replace hR := hR.trans (rely_set (fun hF => Cfg.Liv.setSt hF hw KK) hO hC)
    replace hF := Cfg.Liv.setSt hF hw KK
    clear hw
    simp only [KK] at hF hR ⊢
    walk_nrm
    refine Gt.of_goes3 (n := 120) hF ?_
    show Goes P true _ _ _ _ _ _
    u_op rlv hF
    u_c stepG_region_end rlv hF
    u_c stepG_ret' rlv hF
    u_leave1 H.f_uAdd rlv hF
    u_op rlv hF
    u_c stepG_region_end rlv hF
    u_c stepG_seq rlv hF
    u_c stepG_seq rlv hF
    u_reg rlv hF
    u_op rlv hF
    u_op rlv hF
    u_op rlv hF
    u_op rlv hF
    u_skip rlv hF
    u_skip rlv hF
    u_op rlv hF
    u_c stepG_region_end rlv hF
    u_cond false rlv hF
    u_c stepG_skip rlv hF
    u_c stepG_seq rlv hF
    u_reg rlv hF
    u_op rlv hF
    u_op rlv hF
    u_op rlv hF
    u_op rlv hF
    u_c stepG_region_end rlv hF
    u_c stepG_seq rlv hF
    u_reg rlv hF
    u_op rlv hF
    u_op rlv hF
    u_op rlv hF
    u_op rlv hF
    u_c stepG_region_end rlv hF
    u_c stepG_seq rlv hF
    u_c stepG_seq rlv hF
    u_reg rlv hF
    u_op rlv hF
    u_op rlv hF
    u_op rlv hF
    u_op rlv hF
    u_op rlv hF
    u_op rlv hF
    u_op rlv hF
    u_op rlv hF
    u_op rlv hF
    u_op rlv hF
    u_c stepG_region_end rlv hF
    u_cond true rlv hF
    u_reg rlv hF
    u_op rlv hF
    u_op rlv hF
    u_op rlv hF
    u_conv H.underlying_tPU32 H.room_tU32 (WgLive.cell1 (show WgLive L.tWg Wg _ from hF.1)).choose_spec rlv hF
    refine Goes.stop (fun w₁ h₁ => ?_)
    replace hF := rlv hF h₁
    clear h₁
    intro _ r₁
    replace hR := hR.trans r₁
    clear r₁
    refine Ren.Gt.mark (m := .read ⟨Wg, 1, none⟩) ⟨by simp, fun a ha => ?_, by simp, by simp⟩ hF (hushM _) rfl (fun w₄ r => stepG_markAt .read (by simp) rfl rfl (by k_ne) rfl H.f_raceRead (x_raceRead_n L) (x_raceRead_b L) (x_raceRead_x L) (x_raceRead_f L) (ad := ⟨Wg, 1, none⟩) (by simp [Act.eval])) ?_
    · rcases ha with ha | ha
      · cases ha
        exact ⟨rfl, fun w1 hl => by obtain ⟨⟨st, sm, x⟩, _⟩ := hl; exact (Array.getElem?_eq_some_iff.1 (show w1.heap[Wg]? = some _ from x)).1⟩
      · cases ha
    rw [show deafBehind 1 #[⟨.mark (.read ⟨Wg, 1, none⟩), false, true⟩] = 1 from rfl]
    walk_nrm
    refine Gt.of_goes3 (n := 60) hF ?_
    show Goes P true _ _ _ _ _ _
    u_c stepG_region_end rlv hF
    u_c stepG_seq rlv hF
    u_c stepG_seq rlv hF
    u_reg rlv hF
    u_op rlv hF
    u_op rlv hF
    u_c stepG_region_end rlv hF
    u_cond false rlv hF
    u_c stepG_skip rlv hF
    u_c stepG_seq rlv hF
    u_c stepG_seq rlv hF
    u_reg rlv hF
    u_op rlv hF
    u_op rlv hF
    u_op rlv hF
    u_skip rlv hF
    u_skip rlv hF
    u_op rlv hF
    u_op rlv hF
    u_skip rlv hF
    u_skip rlv hF
    u_skip rlv hF
    u_skip rlv hF
    u_op rlv hF
    u_c stepG_region_end rlv hF
    u_cond false rlv hF
    u_c stepG_skip rlv hF
    u_c stepG_seq rlv hF
    u_c stepG_seq rlv hF
    u_reg rlv hF
    u_op rlv hF
    u_op rlv hF
    u_op rlv hF
    u_skip rlv hF
    u_skip rlv hF
    u_op rlv hF
    u_c stepG_region_end rlv hF
    u_cond true rlv hF
    u_c stepG_ret' rlv hF
    refine Goes.stop (fun w₁ h₁ => ?_)
    replace hF := rlv hF h₁
    clear h₁
    intro _ r₁
    replace hR := hR.trans r₁
    clear r₁
    refine Ren.Gt.mark (m := .enable) ⟨by simp, by simp, by simp, by simp⟩ hF (hushM _) rfl (fun w₄ r => stepG_unwind_entry (v := .tuple #[]) (evs := #[mk .enable]) rfl H.f_enable (x_enable_n L) (x_enable_b L) (x_enable_x L) (x_enable_f L) (by simp [Extern.Race.none_]) (by simp [mk]) (by simp [mk])) ?_
    rw [show deafBehind 1 #[⟨.mark .enable, false, true⟩] = 0 from rfl]
    refine Gt.of_goes3 (n := 5) hF ?_
    show Goes P true _ _ _ _ _ _
    u_leave0 H.f_add rlv hF
    refine Goes.stop (fun w₁ h₁ => ?_)
    replace hF := rlv hF h₁
    clear h₁
    intro _ r₁
    replace hR := hR.trans r₁
    clear r₁
    exact hT _ hR
  · obtain ⟨V, hV⟩ : ∃ V : Int, V = (v : Int) + 1 := ⟨_, rfl⟩
    obtain ⟨S, hS⟩ : ∃ S : Int, S = V * KK := ⟨_, rfl⟩
    have eS : IntKind.u64.wrap ((v : Int) * KK + 4294967296) = S := by rw [IntKind.wrap_u64, hS, hV]; simp only [KK]; omega
    have hc : ((v + 1 : Nat) : Int) = (v : Int) + 1 := by omega
    rw [hc, ← hV, ← hS]
    have a1 : S / 4294967296 = V := by rw [hS]; simp only [KK]; omega
    have b1 : bits .and .u64 S 2147483648 = 0 := by rw [hS, hV]; have := Go.ConcN.st_flag (v + 1) 0 (by omega) (by omega); simpa [KK] using this
    have b2 : bits .and .u64 S 2147483647 = 0 := by rw [hS, hV]; have := Go.ConcN.st_waiters (v + 1) 0 (by omega) (by omega); simpa [KK] using this
    have c1 : IntKind.i32.wrap V = V := by rw [IntKind.wrap_i32]; omega
    have hV1 : 1 < V := by omega
    have hV2 : V < 2147483648 := by omega
    have q1 : (V == 1) = false := by simp; omega
    have q2 : decide (V = 1) = false := decide_eq_false (by omega)
    have q3 : decide (V < 0) = false := decide_eq_false (by omega)
    have q4 : decide (0 < V) = true := decide_eq_true (by omega)
    have q5 : (V == 0) = false := by simp; omega
    have q6 : decide (V = 0) = false := decide_eq_false (by omega)
    refine ⟨_, (stepG_add_atomic rfl rfl (by k_ne) rfl H.f_addU64 (x_addU64_n L) (x_addU64_b L) (x_addU64_x L) .u64 (x_addU64_f L) rfl rfl hw.cellSt (hw.thaw 0)).trans (by rw [eS]; rfl), ?_⟩
    replace hR := hR.trans (rely_set (fun hF => Cfg.Liv.setSt hF hw S) hO hC)
    replace hF := Cfg.Liv.setSt hF hw S
    clear hw hS hV eS hc
    walk_nrm
    refine Gt.of_goes3 (n := 120) hF ?_
    show Goes P true _ _ _ _ _ _
    u_op rlv hF
    u_c stepG_region_end rlv hF
    u_c stepG_ret' rlv hF
    u_leave1 H.f_uAdd rlv hF
    u_op rlv hF
    u_c stepG_region_end rlv hF
    u_c stepG_seq rlv hF
    u_c stepG_seq rlv hF
    u_reg rlv hF
    u_op rlv hF
    u_op rlv hF
    u_op rlv hF
    u_op rlv hF
    u_skip rlv hF
    u_skip rlv hF
    u_op rlv hF
    u_c stepG_region_end rlv hF
    u_cnd false rlv hF
    u_c stepG_skip rlv hF
    u_c stepG_seq rlv hF
    u_reg rlv hF
    u_op rlv hF
    u_op rlv hF
    u_op rlv hF
    u_op rlv hF
    u_c stepG_region_end rlv hF
    u_c stepG_seq rlv hF
    u_reg rlv hF
    u_op rlv hF
    u_op rlv hF
    u_op rlv hF
    u_op rlv hF
    u_c stepG_region_end rlv hF
    u_c stepG_seq rlv hF
    u_c stepG_seq rlv hF
    u_reg rlv hF
    u_op rlv hF
    u_op rlv hF
    u_op rlv hF
    u_op rlv hF
    u_op rlv hF
    u_op rlv hF
    u_op rlv hF
    u_op rlv hF
    u_op rlv hF
    u_op rlv hF
    u_c stepG_region_end rlv hF
    u_cnd false rlv hF
    u_c stepG_skip rlv hF
    u_c stepG_seq rlv hF
    u_c stepG_seq rlv hF
    u_reg rlv hF
    u_op rlv hF
    u_op rlv hF
    u_c stepG_region_end rlv hF
    u_cnd false rlv hF
    u_c stepG_skip rlv hF
    u_c stepG_seq rlv hF
    u_c stepG_seq rlv hF
    u_reg rlv hF
    u_op rlv hF
    u_op rlv hF
    u_op rlv hF
    u_skip rlv hF
    u_skip rlv hF
    u_op rlv hF
    u_op rlv hF
    u_skip rlv hF
    u_skip rlv hF
    u_skip rlv hF
    u_skip rlv hF
    u_op rlv hF
    u_c stepG_region_end rlv hF
    u_cnd false rlv hF
    u_c stepG_skip rlv hF
    u_c stepG_seq rlv hF
    u_c stepG_seq rlv hF
    u_reg rlv hF
    u_op rlv hF
    u_op rlv hF
    u_op rlv hF
    u_skip rlv hF
    u_skip rlv hF
    u_op rlv hF
    u_c stepG_region_end rlv hF
    u_cnd true rlv hF
    u_c stepG_ret' rlv hF
    refine Goes.stop (fun w₁ h₁ => ?_)
    replace hF := rlv hF h₁
    clear h₁
    intro _ r₁
    replace hR := hR.trans r₁
    clear r₁
    refine Ren.Gt.mark (m := .enable) ⟨by simp, by simp, by simp, by simp⟩ hF (hushM _) rfl (fun w₄ r => stepG_unwind_entry (v := .tuple #[]) (evs := #[mk .enable]) rfl H.f_enable (x_enable_n L) (x_enable_b L) (x_enable_x L) (x_enable_f L) (by simp [Extern.Race.none_]) (by simp [mk]) (by simp [mk])) ?_
    rw [show deafBehind 1 #[⟨.mark .enable, false, true⟩] = 0 from rfl]
    refine Gt.of_goes3 (n := 5) hF ?_
    show Goes P true _ _ _ _ _ _
    u_leave0 H.f_add rlv hF
    refine Goes.stop (fun w₁ h₁ => ?_)
    replace hF := rlv hF h₁
    clear h₁
    intro _ r₁
    replace hR := hR.trans r₁
    clear r₁
    exact hT _ hR
end Pool
end Go.Proofs.YtdkpbobglogmoaaGreat
namespace Go.Proofs.YtdkpbobglogmoaaGreat
open Go Go.Conc Go.RowKit Go.Conc.Lib Go.ConcR.Gen Go.ConcN.Gen
open Go.ConcR (KK wgBlock WgAt stA smA rd wr mk DC0)
open Go.ConcN (sumTo WgLive)
namespace Pool
open Ren (Loc.blk Rely Gt Gk Rk Terms Did EvO New With)
def AtHead (L : WgLink) (Wg : Nat) (c : Frame) (cs : List Frame) (g : Goroutine) (w : World) : Prop :=
  ∃ T : Array Value, g = G ((base L.wait).at ⟨T, []⟩ [.code (L7 L), .inLoop (L7 L), .inBlock 0]) (c :: cs) ∧ T.size = 84 ∧ T[0]? = some (.pointer (some ⟨Wg, 0, none⟩))
theorem Cfg.Liv.setSm {c : Cfg} {w : World} (h : c.Liv w) {st sm : Int} (hw : WgAt c.ty c.Wg w st sm) (sm' : Int) : c.Liv (w.setCell (smA c.Wg) (.int .u32 sm')) :=
  h.set (hw.setSm sm') fun b hb => setCell_other _ _ _ hb
section
variable {L : WgLink} {P₀ : Program} {c : Cfg} {b₀ : Frame} {a₀ : Act} {ops₀ : Array Oper} {i₀ : Nat} {rest₀ : List Nat} {k₀ : List Item} {cs : List Frame} {w₀ : World}
theorem waitRound (H : WgLib P₀ L) (hP : c.P = P₀) (hty : c.ty = L.tWg) (hC : ¬ c.Cold c.Wg)
    (hT : ∀ w', Rely c.Cold c.Liv None w₀ w' → Gt c.Tc (AtClose c) 0 None (G (b₀.at (a₀.put ((ops₀[i₀]?).bind (·.dst)) (.tuple #[])) (.inRegion ops₀ rest₀ :: k₀)) cs) w')
    (hAnc : ∀ g w', c.Liv w' → Rely c.Cold c.Liv None w₀ w' → (∃ m, Goes c.P false (fun w w1 => c.Liv w → c.Liv w1) DC0 (AtHead L c.Wg (b₀.at a₀ (.inRegion ops₀ (i₀ :: rest₀) :: k₀)) cs) m g w') → c.Anc g w')
    (g : Goroutine) (w : World) (h : AtHead L c.Wg (b₀.at a₀ (.inRegion ops₀ (i₀ :: rest₀) :: k₀)) cs g w) (hF : c.Liv w) (hR : Rely c.Cold c.Liv None w₀ w) : Gt c.Tc (AtW1 c) 1 None g w := by
  obtain ⟨P, ty, aty, Wg, A, C, n, N, bb, Cold, Item, Lp, Mp, Fin, ChC, Anc⟩ := c
  simp only at hP hty
  subst hP hty
  lib_facts
  obtain ⟨T, rfl, hT84, t0⟩ := h
  obtain ⟨v0, v1, v2, v3, v4, v5, v6, v7, v8, v9, v10, v11, v12, v13, v14, v15, v16, v17, v18, v19, v20, v21, v22, v23, v24, v25, v26, v27, v28, v29, v30, v31, v32, v33, v34, v35, v36, v37, v38, v39, v40, v41, v42, v43, v44, v45, v46, v47, v48, v49, v50, v51, v52, v53, v54, v55, v56, v57, v58, v59, v60, v61, v62, v63, v64, v65, v66, v67, v68, v69, v70, v71, v72, v73, v74, v75, v76, v77, v78, v79, v80, v81, v82, v83, rfl⟩ := array84 T hT84
  simp only [List.getElem?_toArray, List.getElem?_cons_zero, Option.some.injEq] at t0
  subst t0
  simp only [L7, body_wait, waitFn, Option.getD_some]
  refine Gt.of_goes3 (n := 30) hF ?_
  show Goes P false _ _ _ _ _ _
  u_c stepG_block rlv hF
  u_c stepG_seq rlv hF
  u_reg rlv hF
  u_op rlv hF
  u_op rlv hF
  u_op rlv hF
  u_call H.f_uLoad (nm_uLoad L) uLoadFn rlv hF
  u_c stepG_seq rlv hF
  u_reg rlv hF
  u_op rlv hF
  u_c stepG_region_end rlv hF
  u_c stepG_seq rlv hF
  u_reg rlv hF
  u_op rlv hF
  u_op rlv hF
  u_op rlv hF
  refine Goes.stop (fun w₁ h₁ => ?_)
  replace hF := rlv hF h₁
  clear h₁
  intro _ r₁
  replace hR := hR.trans r₁
  clear r₁
  refine .stop fun w₂ r₂ => ?_
  replace hF := r₂.liv hF
  replace hR := hR.trans r₂
  clear r₂
  refine ⟨rfl, rfl, fun v hv hw => ?_⟩
  rcases Nat.eq_zero_or_pos v with rfl | hvp
  · replace hw : WgAt L.tWg Wg w₂ 0 0 := by simpa using hw
    refine ⟨_, stepG_load_atomic (v := 0) rfl rfl (by k_ne) rfl H.f_loadU64 (x_loadU64_n L) (x_loadU64_b L) (x_loadU64_x L) .u64 (x_loadU64_f L) rfl hw.cellSt, fun _ => ?_, fun h => absurd rfl h⟩
    clear hw
    walk_nrm
    refine Gt.of_goes3 (n := 60) hF ?_
    show Goes P false _ _ _ _ _ _
    u_op rlv hF
    u_c stepG_region_end rlv hF
    u_c stepG_ret' rlv hF
    u_leave1 H.f_uLoad rlv hF
    u_op rlv hF
    u_c stepG_region_end rlv hF
    u_c stepG_seq rlv hF
    u_reg rlv hF
    u_op rlv hF
    u_op rlv hF
    u_op rlv hF
    u_op rlv hF
    u_c stepG_region_end rlv hF
    u_c stepG_seq rlv hF
    u_reg rlv hF
    u_op rlv hF
    u_op rlv hF
    u_op rlv hF
    u_op rlv hF
    u_c stepG_region_end rlv hF
    u_c stepG_seq rlv hF
    u_c stepG_seq rlv hF
    u_reg rlv hF
    u_op rlv hF
    u_op rlv hF
    u_c stepG_region_end rlv hF
    u_cond true rlv hF
    u_c stepG_seq rlv hF
    u_cond true rlv hF
    u_c stepG_seq rlv hF
    u_reg rlv hF
    refine Goes.stop (fun w₁ h₁ => ?_)
    replace hF := rlv hF h₁
    clear h₁
    intro _ r₁
    replace hR := hR.trans r₁
    clear r₁
    refine Ren.Gt.mark (m := .enable) ⟨by simp, by simp, by simp, by simp⟩ hF (hushC _) rfl (fun w₄ r => stepG_mark0 .enable (by simp) rfl rfl (by k_ne) rfl H.f_enable (x_enable_n L) (x_enable_b L) (x_enable_x L) (x_enable_f L)) ?_
    rw [show deafBehind 1 #[⟨.mark .enable, false, true⟩] = 0 from rfl]
    walk_nrm
    refine Gt.of_goes3 (n := 30) hF ?_
    show Goes P false _ _ _ _ _ _
    u_c stepG_region_end rlv hF
    u_reg rlv hF
    u_op rlv hF
    u_conv H.underlying_tWgP H.room_tWg (WgLive.cell0 (show WgLive L.tWg Wg _ from hF.1)).choose_spec rlv hF
    refine Goes.stop (fun w₁ h₁ => ?_)
    replace hF := rlv hF h₁
    clear h₁
    intro _ r₁
    replace hR := hR.trans r₁
    clear r₁
    refine .stop fun w₂ r₂ => ?_
    replace hF := r₂.liv hF
    replace hR := hR.trans r₂
    clear r₂
    refine ⟨rfl, rfl, _, stepG_markAt .acquire (by simp) rfl rfl (by k_ne) rfl H.f_acquire (x_acquire_n L) (x_acquire_b L) (x_acquire_x L) (x_acquire_f L) (by simp [Act.eval, stA]), ?_⟩
    walk_nrm
    refine Gt.of_goes3 (n := 40) hF ?_
    show Goes P false _ _ _ _ _ _
    u_c stepG_region_end rlv hF
    u_c stepG_seq rlv hF
    u_c stepG_seq rlv hF
    u_reg rlv hF
    u_op rlv hF
    u_op rlv hF
    u_op rlv hF
    u_op rlv hF
    u_op rlv hF
    u_op rlv hF
    u_op rlv hF
    u_op rlv hF
    u_skip rlv hF
    u_skip rlv hF
    u_op rlv hF
    u_c stepG_region_end rlv hF
    u_cond false rlv hF
    u_c stepG_skip rlv hF
    u_c stepG_ret' rlv hF
    u_leave0 H.f_wait rlv hF
    refine Goes.stop (fun w₁ h₁ => ?_)
    replace hF := rlv hF h₁
    clear h₁
    intro _ r₁
    replace hR := hR.trans r₁
    clear r₁
    exact hT _ hR
  · obtain ⟨S, hS⟩ : ∃ S : Int, (v : Int) * KK = S := ⟨_, rfl⟩
    have a1 : S / 4294967296 = (v : Int) := by rw [← hS]; simp only [KK]; omega
    have b1 : bits .and .u64 S 2147483648 = 0 := by rw [← hS]; have := Go.ConcN.st_flag v 0 (by omega) (by omega); simpa [KK] using this
    have b2 : bits .and .u64 S 2147483647 = 0 := by rw [← hS]; have := Go.ConcN.st_waiters v 0 (by omega) (by omega); simpa [KK] using this
    have c1 : IntKind.i32.wrap (v : Int) = (v : Int) := by rw [IntKind.wrap_i32]; omega
    have w1 : IntKind.u64.wrap (S + 1) = S + 1 := by rw [IntKind.wrap_u64, ← hS]; simp only [KK]; omega
    have q3 : decide ((v : Int) < 0) = false := decide_eq_false (by omega)
    have q4 : decide (0 < (v : Int)) = true := decide_eq_true (by omega)
    have q5 : ((v : Int) == 0) = false := by simp; omega
    have q6 : decide ((v : Int) = 0) = false := decide_eq_false (by omega)
    rw [hS] at hw
    refine ⟨_, stepG_load_atomic (v := S) rfl rfl (by k_ne) rfl H.f_loadU64 (x_loadU64_n L) (x_loadU64_b L) (x_loadU64_x L) .u64 (x_loadU64_f L) rfl hw.cellSt, fun h0 => absurd h0 (by omega), fun _ => ?_⟩
    clear hw
    walk_nrm
    refine Gt.of_goes3 (n := 70) hF ?_
    show Goes P false _ _ _ _ _ _
    u_op rlv hF
    u_c stepG_region_end rlv hF
    u_c stepG_ret' rlv hF
    u_leave1 H.f_uLoad rlv hF
    u_op rlv hF
    u_c stepG_region_end rlv hF
    u_c stepG_seq rlv hF
    u_reg rlv hF
    u_op rlv hF
    u_op rlv hF
    u_op rlv hF
    u_op rlv hF
    u_c stepG_region_end rlv hF
    u_c stepG_seq rlv hF
    u_reg rlv hF
    u_op rlv hF
    u_op rlv hF
    u_op rlv hF
    u_op rlv hF
    u_c stepG_region_end rlv hF
    u_c stepG_seq rlv hF
    u_c stepG_seq rlv hF
    u_reg rlv hF
    u_op rlv hF
    u_op rlv hF
    u_c stepG_region_end rlv hF
    u_cnd false rlv hF
    u_c stepG_skip rlv hF
    u_c stepG_seq rlv hF
    u_reg rlv hF
    u_op rlv hF
    u_op rlv hF
    u_op rlv hF
    u_op rlv hF
    u_op rlv hF
    u_op rlv hF
    u_call H.f_uCas (nm_uCas L) uCasFn rlv hF
    u_c stepG_seq rlv hF
    u_reg rlv hF
    u_op rlv hF
    u_c stepG_region_end rlv hF
    u_c stepG_seq rlv hF
    u_reg rlv hF
    u_op rlv hF
    u_op rlv hF
    u_op rlv hF
    u_op rlv hF
    u_op rlv hF
    refine Goes.stop (fun w₁ h₁ => ?_)
    replace hF := rlv hF h₁
    clear h₁
    intro _ r₁
    replace hR := hR.trans r₁
    clear r₁
    refine .stop fun w₂ r₂ => ?_
    replace hF := r₂.liv hF
    replace hR := hR.trans r₂
    clear r₂
    refine ⟨rfl, rfl, fun v' hv' hw => ⟨fun e => ?_, fun e => ?_⟩⟩
    · subst e
      rw [hS] at hw ⊢
      refine ⟨_, (stepG_cas_hit (v := S) (n := S + 1) rfl rfl (by k_ne) rfl H.f_casU64 (x_casU64_n L) (x_casU64_b L) (x_casU64_x L) .u64 (x_casU64_f L) rfl rfl rfl hw.cellSt (hw.thaw 0)).trans (by rfl), ?_⟩
      replace hR := hR.trans (rely_set (fun hF => Cfg.Liv.setSt hF hw (S + 1)) id hC)
      replace hF := Cfg.Liv.setSt hF hw (S + 1)
      clear hw
      walk_nrm
      refine Gt.of_goes3 (n := 80) hF ?_
      show Goes P false _ _ _ _ _ _
      u_op rlv hF
      u_c stepG_region_end rlv hF
      u_c stepG_ret' rlv hF
      u_leave1 H.f_uCas rlv hF
      u_c stepG_region_end rlv hF
      u_cond true rlv hF
      u_c stepG_seq rlv hF
      u_c stepG_seq rlv hF
      u_reg rlv hF
      u_op rlv hF
      u_op rlv hF
      u_op rlv hF
      u_op rlv hF
      u_c stepG_region_end rlv hF
      u_cond true rlv hF
      u_reg rlv hF
      u_op rlv hF
      u_op rlv hF
      u_op rlv hF
      u_conv H.underlying_tPU32 H.room_tU32 (WgLive.cell1 (show WgLive L.tWg Wg _ from hF.1)).choose_spec rlv hF
      refine Goes.stop (fun w₁ h₁ => ?_)
      replace hF := rlv hF h₁
      clear h₁
      intro _ r₁
      replace hR := hR.trans r₁
      clear r₁
      refine Ren.Gt.mark (m := .write ⟨Wg, 1, none⟩) ⟨by simp, fun a ha => ?_, by simp, by simp⟩ hF (hushC _) rfl (fun w₄ r => stepG_markAt .write (by simp) rfl rfl (by k_ne) rfl H.f_raceWrite (x_raceWrite_n L) (x_raceWrite_b L) (x_raceWrite_x L) (x_raceWrite_f L) (ad := ⟨Wg, 1, none⟩) (by simp [Act.eval])) ?_
      · rcases ha with ha | ha
        · cases ha
        · cases ha
          exact ⟨rfl, fun w1 hl => by obtain ⟨⟨st, sm, x⟩, _⟩ := hl; exact (Array.getElem?_eq_some_iff.1 (show w1.heap[Wg]? = some _ from x)).1⟩
      rw [show deafBehind 1 #[⟨.mark (.write ⟨Wg, 1, none⟩), false, true⟩] = 1 from rfl]
      walk_nrm
      refine Gt.of_goes3 (n := 40) hF ?_
      show Goes P false _ _ _ _ _ _
      u_c stepG_region_end rlv hF
      u_c stepG_seq rlv hF
      u_reg rlv hF
      u_op rlv hF
      u_c stepG_region_end rlv hF
      u_c stepG_seq rlv hF
      u_c stepG_seq rlv hF
      u_reg rlv hF
      u_op rlv hF
      u_op rlv hF
      u_op rlv hF
      u_op rlv hF
      u_skip rlv hF
      u_op rlv hF
      u_c stepG_region_end rlv hF
      u_cond false rlv hF
      u_c stepG_skip rlv hF
      u_c stepG_seq rlv hF
      u_reg rlv hF
      u_op rlv hF
      u_op rlv hF
      u_op rlv hF
      u_op rlv hF
      refine Goes.stop (fun w₁ h₁ => ?_)
      replace hF := rlv hF h₁
      clear h₁
      intro _ r₁
      replace hR := hR.trans r₁
      clear r₁
      refine .stop fun w₂ r₂ => ?_
      replace hF := r₂.liv hF
      replace hR := hR.trans r₂
      clear r₂
      refine ⟨rfl, rfl, rfl, fun ⟨st, hw⟩ => stepG_semacquire_wait rfl rfl rfl H.f_semacquire (x_semacquire_n L) (x_semacquire_b L) (x_semacquire_x L) (x_semacquire_f L) (by simp [Act.eval, smA]) hw.cellSm, fun hf => ?_⟩
      refine ⟨_, (stepG_semacquire (n := 1) rfl rfl (by k_ne) rfl H.f_semacquire (x_semacquire_n L) (x_semacquire_b L) (x_semacquire_x L) (x_semacquire_f L) (by simp [Act.eval, smA]) hf.cellSm (by k_ne) (hf.thaw 1)).trans (by rfl), ?_⟩
      replace hR := hR.trans (rely_set (fun hF => Cfg.Liv.setSm hF hf 0) id hC)
      replace hF := Cfg.Liv.setSm hF hf 0
      clear hf
      walk_nrm
      refine Gt.of_goes3 (n := 40) hF ?_
      show Goes P false _ _ _ _ _ _
      u_c stepG_region_end rlv hF
      u_c stepG_seq rlv hF
      u_reg rlv hF
      u_op rlv hF
      u_op rlv hF
      u_op rlv hF
      u_call H.f_uLoad (nm_uLoad L) uLoadFn rlv hF
      u_c stepG_seq rlv hF
      u_reg rlv hF
      u_op rlv hF
      u_c stepG_region_end rlv hF
      u_c stepG_seq rlv hF
      u_reg rlv hF
      u_op rlv hF
      u_op rlv hF
      u_op rlv hF
      refine Goes.stop (fun w₁ h₁ => ?_)
      replace hF := rlv hF h₁
      clear h₁
      intro _ r₁
      replace hR := hR.trans r₁
      clear r₁
      refine .stop fun w₂ r₂ => ?_
      replace hF := r₂.liv hF
      replace hR := hR.trans r₂
      clear r₂
      refine ⟨rfl, rfl, fun hw => ⟨_, stepG_load_atomic (v := 0) rfl rfl (by k_ne) rfl H.f_loadU64 (x_loadU64_n L) (x_loadU64_b L) (x_loadU64_x L) .u64 (x_loadU64_f L) rfl hw.cellSt, ?_⟩⟩
      clear hw
      walk_nrm
      refine Gt.of_goes3 (n := 30) hF ?_
      show Goes P false _ _ _ _ _ _
      u_op rlv hF
      u_c stepG_region_end rlv hF
      u_c stepG_ret' rlv hF
      u_leave1 H.f_uLoad rlv hF
      u_op rlv hF
      u_op rlv hF
      u_c stepG_region_end rlv hF
      u_c stepG_seq rlv hF
      u_cond true rlv hF
      u_c stepG_seq rlv hF
      u_reg rlv hF
      refine Goes.stop (fun w₁ h₁ => ?_)
      replace hF := rlv hF h₁
      clear h₁
      intro _ r₁
      replace hR := hR.trans r₁
      clear r₁
      refine Ren.Gt.mark (m := .enable) ⟨by simp, by simp, by simp, by simp⟩ hF (hushC _) rfl (fun w₄ r => stepG_mark0 .enable (by simp) rfl rfl (by k_ne) rfl H.f_enable (x_enable_n L) (x_enable_b L) (x_enable_x L) (x_enable_f L)) ?_
      rw [show deafBehind 1 #[⟨.mark .enable, false, true⟩] = 0 from rfl]
      walk_nrm
      refine Gt.of_goes3 (n := 30) hF ?_
      show Goes P false _ _ _ _ _ _
      u_c stepG_region_end rlv hF
      u_reg rlv hF
      u_op rlv hF
      u_conv H.underlying_tWgP H.room_tWg (WgLive.cell0 (show WgLive L.tWg Wg _ from hF.1)).choose_spec rlv hF
      refine Goes.stop (fun w₁ h₁ => ?_)
      replace hF := rlv hF h₁
      clear h₁
      intro _ r₁
      replace hR := hR.trans r₁
      clear r₁
      refine .stop fun w₂ r₂ => ?_
      replace hF := r₂.liv hF
      replace hR := hR.trans r₂
      clear r₂
      refine ⟨rfl, rfl, _, stepG_markAt .acquire (by simp) rfl rfl (by k_ne) rfl H.f_acquire (x_acquire_n L) (x_acquire_b L) (x_acquire_x L) (x_acquire_f L) (by simp [Act.eval, stA]), ?_⟩
      walk_nrm
      refine Gt.of_goes3 (n := 40) hF ?_
      show Goes P false _ _ _ _ _ _
      u_c stepG_region_end rlv hF
      u_c stepG_seq rlv hF
      u_c stepG_seq rlv hF
      u_reg rlv hF
      u_op rlv hF
      u_c stepG_region_end rlv hF
      u_cond false rlv hF
      u_c stepG_skip rlv hF
      u_c stepG_ret' rlv hF
      u_leave0 H.f_wait rlv hF
      refine Goes.stop (fun w₁ h₁ => ?_)
      replace hF := rlv hF h₁
      clear h₁
      intro _ r₁
      replace hR := hR.trans r₁
      clear r₁
      exact hT _ hR
    · refine ⟨_, stepG_cas_miss (v := (v' : Int) * KK) (old := S) (n := S + 1) rfl rfl (by k_ne) rfl H.f_casU64 (x_casU64_n L) (x_casU64_b L) (x_casU64_x L) .u64 (x_casU64_f L) rfl rfl rfl hw.cellSt (hw.thaw 0) (by rw [← hS]; simp only [KK]; omega), hAnc _ _ hF hR ⟨20, ?_⟩⟩
      clear hw hAnc hT
      show Goes P false _ _ _ _ _ _
      walk_nrm
      u_op rlv hF
      u_c stepG_region_end rlv hF
      u_c stepG_ret' rlv hF
      u_leave1 H.f_uCas rlv hF
      u_c stepG_region_end rlv hF
      u_cond false rlv hF
      u_c stepG_skip rlv hF
      u_c stepG_inBlock rlv hF
      u_c stepG_inLoop rlv hF
      exact Goes.stop (fun w₃ h₃ => ⟨_, rfl, by simp, by simp⟩)
theorem waitStart (H : WgLib P₀ L) (hP : c.P = P₀) (hty : c.ty = L.tWg) (hC : ¬ c.Cold c.Wg)
    (hT : ∀ w', Rely c.Cold c.Liv None w₀ w' → Gt c.Tc (AtClose c) 0 None (G (b₀.at (a₀.put ((ops₀[i₀]?).bind (·.dst)) (.tuple #[])) (.inRegion ops₀ rest₀ :: k₀)) cs) w')
    (hAnc : ∀ g w', c.Liv w' → Rely c.Cold c.Liv None w₀ w' → (∃ m, Goes c.P false (fun w w1 => c.Liv w → c.Liv w1) DC0 (AtHead L c.Wg (b₀.at a₀ (.inRegion ops₀ (i₀ :: rest₀) :: k₀)) cs) m g w') → c.Anc g w')
    (w : World) (hF : c.Liv w) (hR : Rely c.Cold c.Liv None w₀ w) : Gt c.Tc (AtW1 c) 0 None (G ((base L.wait).at ⟨#[.pointer (some ⟨c.Wg, 0, none⟩), undef, undef, undef, undef, undef, undef, undef, undef, undef, undef, undef, undef, undef, undef, undef, undef, undef, undef, undef, undef, undef, undef, undef, undef, undef, undef, undef, undef, undef, undef, undef, undef, undef, undef, undef, undef, undef, undef, undef, undef, undef, undef, undef, undef, undef, undef, undef, undef, undef, undef, undef, undef, undef, undef, undef, undef, undef, undef, undef, undef, undef, undef, undef, undef, undef, undef, undef, undef, undef, undef, undef, undef, undef, undef, undef, undef, undef, undef, undef, undef, undef, undef, undef], []⟩ [.code (body_wait L)]) (b₀.at a₀ (.inRegion ops₀ (i₀ :: rest₀) :: k₀) :: cs)) w := by
  have hround := waitRound (b₀ := b₀) (a₀ := a₀) (ops₀ := ops₀) (i₀ := i₀) (rest₀ := rest₀) (k₀ := k₀) (cs := cs) (w₀ := w₀) H hP hty hC hT hAnc
  clear hT hAnc
  obtain ⟨P, ty, aty, Wg, A, C, n, N, bb, Cold, Item, Lp, Mp, Fin, ChC, Anc⟩ := c
  simp only at hP hty
  subst hP hty
  lib_facts
  simp only [body_wait, waitFn, Option.getD_some]
  refine Gt.of_goes3 (n := 5) hF ?_
  show Goes P false _ _ _ _ _ _
  u_c stepG_seq rlv hF
  u_cond true rlv hF
  u_reg rlv hF
  refine Goes.stop (fun w₁ h₁ => ?_)
  replace hF := rlv hF h₁
  clear h₁
  intro _ r₁
  replace hR := hR.trans r₁
  clear r₁
  refine Ren.Gt.mark (m := .disable) ⟨by simp, by simp, by simp, by simp⟩ hF (hushC _) rfl (fun w₄ r => stepG_mark0 .disable (by simp) rfl rfl (by k_ne) rfl H.f_disable (x_disable_n L) (x_disable_b L) (x_disable_x L) (x_disable_f L)) ?_
  rw [show deafBehind 0 #[⟨.mark .disable, false, true⟩] = 1 from rfl]
  walk_nrm
  refine Gt.of_goes3 (n := 5) hF ?_
  show Goes P false _ _ _ _ _ _
  u_c stepG_region_end rlv hF
  u_c stepG_block rlv hF
  u_c stepG_loop rlv hF
  refine Goes.stop (fun w₁ h₁ => ?_)
  replace hF := rlv hF h₁
  clear h₁
  intro _ r₁
  replace hR := hR.trans r₁
  clear r₁
  exact hround _ _ ⟨_, rfl, by simp, by simp⟩ hF hR
end
end Pool
end Go.Proofs.YtdkpbobglogmoaaGreat
namespace Go.Proofs.YtdkpbobglogmoaaGreat
open Go Go.Conc Go.Conc.Lib
namespace Pool
def L : WgLink := { add := 38, done := 40, wait := 44, relMerge := 51, disable := 52, enable := 53, inBubble := 54, associate := 55, fatal := 56, uOr := 57, uAdd := 58, raceRead := 59, uLoad := 60, uStore := 61, disassociate := 62, semrelease := 63, acquire := 68, isAssociated := 69, uCas := 70, raceWrite := 71, semacquire := 72, orU64 := 77, addU64 := 78, loadU64 := 79, storeU64 := 80, casU64 := 84, tWgP := 120, tUP := 122, tAssoc := 123, tWg := 111, tAU := 109, tU64 := 71, tUint := 100, tU32 := 78, tPU32 := 127, tPAU := 143, tPU64 := 145, tNoCopy := 107, tANoCopy := 103, tAlign64 := 104 }
theorem H : WgLib Tryz.prog L where
  f_add := Tryz.func38
  f_done := Tryz.func40
  f_wait := Tryz.func44
  f_relMerge := Tryz.func51
  f_disable := Tryz.func52
  f_enable := Tryz.func53
  f_inBubble := Tryz.func54
  f_associate := Tryz.func55
  f_fatal := Tryz.func56
  f_uOr := Tryz.func57
  f_uAdd := Tryz.func58
  f_raceRead := Tryz.func59
  f_uLoad := Tryz.func60
  f_uStore := Tryz.func61
  f_disassociate := Tryz.func62
  f_semrelease := Tryz.func63
  f_acquire := Tryz.func68
  f_isAssociated := Tryz.func69
  f_uCas := Tryz.func70
  f_raceWrite := Tryz.func71
  f_semacquire := Tryz.func72
  f_orU64 := Tryz.func77
  f_addU64 := Tryz.func78
  f_loadU64 := Tryz.func79
  f_storeU64 := Tryz.func80
  f_casU64 := Tryz.func84
  underlying_tWgP := Tryz.underlying120
  runUnderlying_tWgP := fun w => Tryz.runUnderlying120 w
  sizeOf_tWgP := fun w => Tryz.sizeOf120 w
  isAgg_tWgP := fun w => Tryz.isAgg120 w
  zeroValue_tWgP := fun w => Tryz.zeroValue120 w
  underlying_tUP := Tryz.underlying122
  runUnderlying_tUP := fun w => Tryz.runUnderlying122 w
  sizeOf_tUP := fun w => Tryz.sizeOf122 w
  isAgg_tUP := fun w => Tryz.isAgg122 w
  zeroValue_tUP := fun w => Tryz.zeroValue122 w
  underlying_tI32 := Tryz.underlying123
  runUnderlying_tI32 := fun w => Tryz.runUnderlying123 w
  sizeOf_tI32 := fun w => Tryz.sizeOf123 w
  isAgg_tI32 := fun w => Tryz.isAgg123 w
  zeroValue_tI32 := fun w => Tryz.zeroValue123 w
  underlying_tWg := Tryz.underlying111
  runUnderlying_tWg := fun w => Tryz.runUnderlying111 w
  sizeOf_tWg := fun w => Tryz.sizeOf111 w
  isAgg_tWg := fun w => Tryz.isAgg111 w
  zeroValue_tWg := fun w => Tryz.zeroValue111 w
  underlying_tAU := Tryz.underlying109
  runUnderlying_tAU := fun w => Tryz.runUnderlying109 w
  sizeOf_tAU := fun w => Tryz.sizeOf109 w
  isAgg_tAU := fun w => Tryz.isAgg109 w
  zeroValue_tAU := fun w => Tryz.zeroValue109 w
  underlying_tU64 := Tryz.underlying71
  runUnderlying_tU64 := fun w => Tryz.runUnderlying71 w
  sizeOf_tU64 := fun w => Tryz.sizeOf71 w
  isAgg_tU64 := fun w => Tryz.isAgg71 w
  zeroValue_tU64 := fun w => Tryz.zeroValue71 w
  underlying_tSh := Tryz.underlying100
  runUnderlying_tSh := fun w => Tryz.runUnderlying100 w
  sizeOf_tSh := fun w => Tryz.sizeOf100 w
  isAgg_tSh := fun w => Tryz.isAgg100 w
  zeroValue_tSh := fun w => Tryz.zeroValue100 w
  underlying_tU32 := Tryz.underlying78
  runUnderlying_tU32 := fun w => Tryz.runUnderlying78 w
  sizeOf_tU32 := fun w => Tryz.sizeOf78 w
  isAgg_tU32 := fun w => Tryz.isAgg78 w
  zeroValue_tU32 := fun w => Tryz.zeroValue78 w
  underlying_tPU32 := Tryz.underlying127
  runUnderlying_tPU32 := fun w => Tryz.runUnderlying127 w
  sizeOf_tPU32 := fun w => Tryz.sizeOf127 w
  isAgg_tPU32 := fun w => Tryz.isAgg127 w
  zeroValue_tPU32 := fun w => Tryz.zeroValue127 w
  underlying_tPAU := Tryz.underlying143
  runUnderlying_tPAU := fun w => Tryz.runUnderlying143 w
  sizeOf_tPAU := fun w => Tryz.sizeOf143 w
  isAgg_tPAU := fun w => Tryz.isAgg143 w
  zeroValue_tPAU := fun w => Tryz.zeroValue143 w
  underlying_tPU64 := Tryz.underlying145
  runUnderlying_tPU64 := fun w => Tryz.runUnderlying145 w
  sizeOf_tPU64 := fun w => Tryz.sizeOf145 w
  isAgg_tPU64 := fun w => Tryz.isAgg145 w
  zeroValue_tPU64 := fun w => Tryz.zeroValue145 w
  underlying_t0 := Tryz.underlying0
  runUnderlying_t0 := fun w => Tryz.runUnderlying0 w
  sizeOf_t0 := fun w => Tryz.sizeOf0 w
  isAgg_t0 := fun w => Tryz.isAgg0 w
  zeroValue_t0 := fun w => Tryz.zeroValue0 w
  underlying_t3 := Tryz.underlying3
  runUnderlying_t3 := fun w => Tryz.runUnderlying3 w
  sizeOf_t3 := fun w => Tryz.sizeOf3 w
  isAgg_t3 := fun w => Tryz.isAgg3 w
  zeroValue_t3 := fun w => Tryz.zeroValue3 w
  underlying_t4 := Tryz.underlying4
  runUnderlying_t4 := fun w => Tryz.runUnderlying4 w
  sizeOf_t4 := fun w => Tryz.sizeOf4 w
  isAgg_t4 := fun w => Tryz.isAgg4 w
  zeroValue_t4 := fun w => Tryz.zeroValue4 w
  underlying_t9 := Tryz.underlying9
  runUnderlying_t9 := fun w => Tryz.runUnderlying9 w
  sizeOf_t9 := fun w => Tryz.sizeOf9 w
  isAgg_t9 := fun w => Tryz.isAgg9 w
  zeroValue_t9 := fun w => Tryz.zeroValue9 w
  underlying_t20 := Tryz.underlying20
  runUnderlying_t20 := fun w => Tryz.runUnderlying20 w
  sizeOf_t20 := fun w => Tryz.sizeOf20 w
  isAgg_t20 := fun w => Tryz.isAgg20 w
  zeroValue_t20 := fun w => Tryz.zeroValue20 w
  underlying_t21 := Tryz.underlying21
  runUnderlying_t21 := fun w => Tryz.runUnderlying21 w
  sizeOf_t21 := fun w => Tryz.sizeOf21 w
  isAgg_t21 := fun w => Tryz.isAgg21 w
  zeroValue_t21 := fun w => Tryz.zeroValue21 w
  room_tWg := by kernel_rfl
  room_tU32 := by kernel_rfl
end Pool
end Go.Proofs.YtdkpbobglogmoaaGreat
