/- Parts of the proof of TopCommandsProof: PoolTask PoolGo PoolSort PoolAfter. -/
import Derived.Test.YtdkpbobglogmoaaGreatProg
import Derived.ProofKit
import Derived.Conc.BesideWords
import Derived.RangeFuncRecord
import Derived.Maps.RangeRun
import Derived.Test.YtdkpbobglogmoaaGreatTk8
set_option linter.unusedVariables false
set_option linter.unusedSimpArgs false
set_option maxRecDepth 100000
set_option maxHeartbeats 32000000
namespace Go.Proofs.YtdkpbobglogmoaaGreat
open Go Go.Conc
namespace Ren
section
variable {P : Program} {gl fs : Nat → Bool} {Shun : Loc → Prop}
def Tq (P : Program) (Cold : Nat → Prop) : Terms := { P := P, main := true, Cold := Cold, Liv := fun _ => True, Say := fun _ => False, Calm := False, Hush := True }
structure Ran (P : Program) (Shun : Loc → Prop) (O : Nat → Prop) (gs : Array Goroutine) (w : World) (gs' : Array Goroutine) (g' : Goroutine) (w' : World) (t' : Trace) : Prop where
  size : gs'.size = gs.size
  bes : Bes P Shun gs' g' w' t'
  heap : w.heap.size ≤ w'.heap.size
  kept : ∀ b, b < w.heap.size → ¬ O b → w'.heap[b]? = w.heap[b]?
  rest : w'.os = w.os ∧ w'.output = w.output
def BackOf (I : Nat → Prop) (gz : Nat) (Post : Value → World → Prop) (k : Frame) (K' : List Frame) : Nat → (Nat → Prop) → Goroutine → World → Prop :=
  fun _ O g w => ∃ v u R wh, g = gor (k.finish u) K' ∧ Post v wh ∧ VR R v u ∧ WR ⟨I, gz⟩ R wh w ∧ ∀ a b, R a b → (I a ∧ I b) ∨ O b
theorem call_beside (HF : ∀ Z, Frag P gl fs Z) (hgl : ∀ x, gl x = false) {f : FuncId} {fn : Func} {args : Array Value} {k : Frame} {K' : List Frame} {Post : Value → World → Prop} (S I : Nat → Prop) {gs : Array Goroutine} {w : World} {sl : Option (Nat × Nat)} {t : Trace}
    (hfs : fs f = true) (hfn : P.funcs[f]? = some fn) (hS : ∀ b, S b → ∃ o, w.heap[b]? = some o ∧ MayO o) (hI : ∀ b, I b → S b) (hgw : P.globals.size ≤ w.heap.size) (ha : VsR (Slf S) args args)
    (hcall : ∀ wh, wh.heap.size = w.heap.size → (∀ b, S b → ∃ x o, wh.heap[b]? = some x ∧ w.heap[b]? = some o ∧ GhostO (Slf S) (I b) x o) → Calls P f args wh fun e w' => ∃ v, e = .returned v ∧ Post v w')
    (hpost : ∀ v w τ d, Post v w → Post v (w.re τ d)) (hSh : ∀ l b, Shun l → Loc.blk l = some b → ¬ S b ∧ b < w.heap.size)
    (hb : Bes P Shun gs (gor (Frame.enter P f args .normal) (k :: K')) w t) :
    ∃ N gs' w' sl' t' v u R wh, runNT P N (crowd gs w sl) t = (.next (crowd gs' w' sl'), t') ∧ Ran P Shun (fun b => S b ∧ ¬ I b) gs w gs' (gor (k.finish u) K') w' t' ∧ Post v wh ∧ VR R v u ∧ WR ⟨I, P.globals.size⟩ R wh w' := by
  obtain ⟨wh, hW, hsz, hos, hout, htape, hdr, hat⟩ := ex_world S I w hS hI hgw
  have hgl' : ∀ x, gl x = true → Slf S x x := fun x hx => by rw [hgl x] at hx; cases hx
  obtain ⟨fn', e, hok⟩ := (HF ⟨I, P.globals.size⟩).fn f hfs
  rw [hfn] at e
  cases e
  have tr := call_tree (gl := gl) (fs := fs) (Z := ⟨I, P.globals.size⟩) (Nat.le_refl _) (HF _) hpost ⟨Slf S, [door P], _, w, by simp, enter_like hfn hok ha [door P], hW, hgl'⟩ (fun τ d => hcall (wh.re τ d) hsz hat)
  have G : Gt (Tq P I) (BackOf I P.globals.size Post k K') 0 (fun b => S b ∧ ¬ I b) (gor (Frame.enter P f args .normal) (k :: K')) w := by
    refine gt_of_treeA (T := Tq P I) (Av := I) (fun b h => h) rfl (fun h => h) (Nat.le_refl _) (HF _) (by simp) (fun _ _ _ _ _ _ h => h) tr hgl' (enter_like hfn hok ha _) hW (fun a b hab => ?_) (fun b hb => ⟨hb.2, ?_⟩) (fun b hb => ?_) ?_
    · obtain ⟨rfl, hs⟩ := hab
      by_cases hi : I a
      · exact .inl ⟨hi, hi⟩
      · exact .inr ⟨hs, hi⟩
    · obtain ⟨o, ho, _⟩ := hS b hb.1
      exact (Array.getElem?_eq_some_iff.1 ho).1
    · obtain ⟨o, ho, _⟩ := hS b (hI b hb)
      exact (Array.getElem?_eq_some_iff.1 ho).1
    · intro R1 O1 v u wh1 w1 k1 K1 ek le hp hv hw hr hoo ho sn
      injection ek with e1 e2
      subst e1 e2
      refine .stop fun w2 r => ⟨v, u, R1, wh1.re w2.tape w2.drawn, rfl, hpost _ _ _ _ hp, hv, hw.frame r.size fun a b x => ?_, hr⟩
      rcases hr a b x with ⟨_, hc⟩ | hc
      · exact r.cold b hc
      · exact r.own b hc
  obtain ⟨r, hk⟩ := G.rank
  obtain ⟨q, hL⟩ := hb.old
  obtain ⟨N, gs', g', w', sl', t', O', e1, e2, e3, e4, e5, e6, e7, e8, e9, e10, e11, e12, e13⟩ := gt_beside (T := Tq P I) (Shun := Shun) (sl := sl) rfl trivial (fun _ h => h) (fun _ _ h => h) (fun d O g w h => by obtain ⟨v, u, R, wh, rfl, _⟩ := h; rfl) hk hb.at0 hL hb.past
    (fun l b h1 h2 => ⟨fun h => (hSh l b h1 h2).1 h.1, fun h => (hSh l b h1 h2).1 (hI b h), (hSh l b h1 h2).2⟩)
  obtain ⟨v, u, R, wh1, rfl, hp, hv, hw, _⟩ := e4
  exact ⟨N, gs', w', sl', t', v, u, R, wh1, e1, ⟨e2, e3, e5, e9, e10, e11⟩, hp, hv, hw⟩
def EndOf (f : FuncId) (I : Nat → Prop) (gz : Nat) (Q : Act → World → Prop) (K : List Frame) : Nat → (Nat → Prop) → Goroutine → World → Prop :=
  fun _ O g w => ∃ a tm X m R wh, g = gor { fram f tm X ([], .normal) with mode := m } K ∧ (m = .run ∧ X = [] ∨ m = .returning) ∧ Q a wh ∧ VsR R a.tmps tm ∧ WR ⟨I, gz⟩ R wh w
theorem same_any (tm : Array Value) : SameT (fun _ => false) tm tm tm := ⟨rfl, fun _ _ => rfl, fun _ h => by cases h⟩
theorem rest_beside (HF : ∀ Z, Frag P gl fs Z) (hgl : ∀ x, gl x = false) {f : FuncId} {fn : Func} {c : Code} {a : Act} {tm : Array Value} {K : List Frame} {Q : Act → World → Prop} (S I : Nat → Prop) {gs : Array Goroutine} {w : World} {sl : Option (Nat × Nat)} {t : Trace}
    (hfn : P.funcs[f]? = some fn) (hX : okItem P gl fs (.code c) = true) (hsee : seesI (fun _ => false) (.code c) = true) (had : a.defers = [])
    (hS : ∀ b, S b → ∃ o, w.heap[b]? = some o ∧ MayO o) (hI : ∀ b, I b → S b) (hgw : P.globals.size ≤ w.heap.size) (htm : VsR (Slf S) a.tmps tm)
    (hwp : ∀ wh, wh.heap.size = w.heap.size → (∀ b, S b → ∃ x o, wh.heap[b]? = some x ∧ w.heap[b]? = some o ∧ GhostO (Slf S) (I b) x o) → c.wp P (fun e a w => (e = .normal ∨ e = .ret) ∧ Q a w) a wh)
    (hpost : ∀ a w τ d, Q a w → Q a (w.re τ d)) (hSh : ∀ l b, Shun l → Loc.blk l = some b → ¬ S b ∧ b < w.heap.size)
    (hb : Bes P Shun gs (gor (fram f tm [.code c] ([], .normal)) K) w t) :
    ∃ N gs' w' sl' t' a' tm' X m R wh, runNT P N (crowd gs w sl) t = (.next (crowd gs' w' sl'), t') ∧ Ran P Shun (fun b => S b ∧ ¬ I b) gs w gs' (gor { fram f tm' X ([], .normal) with mode := m } K) w' t' ∧ (m = .run ∧ X = [] ∨ m = .returning) ∧ Q a' wh ∧ VsR R a'.tmps tm' ∧ WR ⟨I, P.globals.size⟩ R wh w' := by
  obtain ⟨wh, hW, hsz, hos, hout, htape, hdr, hat⟩ := ex_world S I w hS hI hgw
  have hgl' : ∀ x, gl x = true → Slf S x x := fun x hx => by rw [hgl x] at hx; cases hx
  have hst := fun τ d => steps_rest (f := f) (fn := fn) (hwp (wh.re τ d) hsz hat)
  have G : Gt (Tq P I) (EndOf f I P.globals.size Q K) 0 (fun b => S b ∧ ¬ I b) (gor (fram f tm [.code c] ([], .normal)) K) w := by
    refine gt_ret (Nat.le_refl _) (HF ⟨I, P.globals.size⟩) (T := Tq P I) (H := fun _ => false) (Av := I) (X := [.code c]) (a := a) (fun b h => h) rfl (fun h => h) (fun _ _ _ _ _ _ h => h) hpost ⟨fn, hfn⟩ (by simpa using hX) (by simpa using hsee) had hst hgl' htm (same_any tm) hW (fun a b hab => ?_) (fun b hb => hb.2) (fun b hb => ?_) ?_
    · obtain ⟨rfl, hs⟩ := hab
      by_cases hi : I a
      · exact .inl ⟨hi, hi⟩
      · exact .inr ⟨hs, hi⟩
    · obtain ⟨o, ho, _⟩ := hS b (hI b hb)
      exact (Array.getElem?_eq_some_iff.1 ho).1
    · intro R1 O1 a1 tmv1 tm1 wh1 w1 hq hd hv hs le hw hr hoo ho sn X1 m1 hm
      have e : tm1 = tmv1 := Array.ext_getElem? fun i => hs.at_ i rfl
      subst e
      refine .stop fun w2 r => ⟨a1, tm1, X1, m1, R1, wh1.re w2.tape w2.drawn, rfl, hm, hpost _ _ _ _ hq, hv, hw.frame r.size fun a b x => ?_⟩
      rcases hr a b x with ⟨_, hc⟩ | hc
      · exact r.cold b hc
      · exact r.own b hc
  obtain ⟨r, hk⟩ := G.rank
  obtain ⟨q, hL⟩ := hb.old
  obtain ⟨N, gs', g', w', sl', t', O', e1, e2, e3, e4, e5, e6, e7, e8, e9, e10, e11, e12, e13⟩ := gt_beside (T := Tq P I) (Shun := Shun) (sl := sl) rfl trivial (fun _ h => h) (fun _ _ h => h) (fun d O g w h => by obtain ⟨a, tm, X, m, R, wh, rfl, _⟩ := h; rfl) hk hb.at0 hL hb.past
    (fun l b h1 h2 => ⟨fun h => (hSh l b h1 h2).1 h.1, fun h => (hSh l b h1 h2).1 (hI b h), (hSh l b h1 h2).2⟩)
  obtain ⟨a1, tm1, X1, m1, R1, wh1, rfl, hm, hq, hv, hw⟩ := e4
  exact ⟨N, gs', w', sl', t', a1, tm1, X1, m1, R1, wh1, e1, ⟨e2, e3, e5, e9, e10, e11⟩, hm, hq, hv, hw⟩
end
end Ren
end Go.Proofs.YtdkpbobglogmoaaGreat
namespace Go.Proofs.YtdkpbobglogmoaaGreat
open Go Go.Conc Go.RowKit Go.Conc.Lib Go.ConcX.Gen
namespace Pool
section
variable {P : Program} {E : Event → Prop} {Stop : Goroutine → World → Prop} {b : Frame} {a : Act} {k : List Item} {cs : List Frame} {n : Nat} {W W' : World} {ops : Array Oper} {i : Nat} {rest : List Nat} {o : Oper}
theorem goes_opv {v : Value} (ho : ops[i]? = some o) (hw : Region.wanted o (yielded ops a.tmps) = true) (hk : b.kind ≠ .early) (hr : ∀ d, (execOp a.eval o).run P (W.at d) = .ok (.value v) (W'.at d))
    (he : ∀ d, ∀ e ∈ (execOp a.eval o).events P (W.at d) #[], E e) (k' : ∀ d, Goes P true AtRel (DE E) Stop n (G (b.at (a.put o.dst v) (.inRegion ops rest :: k)) cs) (W'.at d)) : Goes P true AtRel (DE E) Stop (n + 1) (G (b.at a (.inRegion ops (i :: rest) :: k)) cs) W := by
  refine Goes.step rfl fun w1 h1 => ?_
  obtain ⟨d, rfl⟩ := h1
  rw [stepG_value ho hw hk (hr d)]
  simp only [goes_go]
  exact ⟨fun e hx => he d e (mem_listed hx), k' d⟩
theorem goes_opn (ho : ops[i]? = some o) (hw : Region.wanted o (yielded ops a.tmps) = true) (hk : b.kind ≠ .early) (hr : ∀ d, (execOp a.eval o).run P (W.at d) = .ok .skip (W'.at d))
    (he : ∀ d, ∀ e ∈ (execOp a.eval o).events P (W.at d) #[], E e) (k' : ∀ d, Goes P true AtRel (DE E) Stop n (G (b.at (a.put o.dst undef) (.inRegion ops rest :: k)) cs) (W'.at d)) : Goes P true AtRel (DE E) Stop (n + 1) (G (b.at a (.inRegion ops (i :: rest) :: k)) cs) W := by
  refine Goes.step rfl fun w1 h1 => ?_
  obtain ⟨d, rfl⟩ := h1
  rw [stepG_none ho hw hk (hr d)]
  simp only [goes_go]
  exact ⟨fun e hx => he d e (mem_listed hx), k' d⟩
theorem goes_known {g g' : Goroutine} {es : Array Event} (hs : g.status = .running) (h : ∀ d, stepG P true g (W.at d) = .go g' (W'.at d) es) (he : ∀ e ∈ es, E e) (k' : ∀ d, Goes P true AtRel (DE E) Stop n g' (W'.at d)) : Goes P true AtRel (DE E) Stop (n + 1) g W := by
  refine Goes.step hs fun w1 h1 => ?_
  obtain ⟨d, rfl⟩ := h1
  rw [h d]
  simp only [goes_go]
  exact ⟨he, k' d⟩
end
end Pool
end Go.Proofs.YtdkpbobglogmoaaGreat
namespace Go.Proofs.YtdkpbobglogmoaaGreat
open Go Go.Conc Go.RowKit Go.Conc.Lib Go.ConcX.Gen
namespace Pool
theorem nm46 : (Tryz.f46.name == "runtime.NumGoroutine") = false := by kernel_rfl
theorem nm74 : (Tryz.f74.name == "runtime.NumGoroutine") = false := by kernel_rfl
theorem nm75 : (Tryz.f75.name == "runtime.NumGoroutine") = false := by kernel_rfl
theorem nm85 : (Tryz.f85.name == "runtime.NumGoroutine") = false := by kernel_rfl
theorem nm95 : (Tryz.f95.name == "runtime.NumGoroutine") = false := by kernel_rfl
theorem run_index8 (t : TypeId) (ht : Tryz.prog.underlying t = some .string) (w : World) (s : ByteArray) (hs : s[1]? = some 1) : (Instr.index t (.string s) (.int .u8 1)).run Tryz.prog w = .ok (.int .u8 1) w := by
  have h : 1 < s.size := by
    by_cases h : 1 < s.size
    · exact h
    · rw [ByteArray.getElem?_ge' s _ h] at hs; cases hs
  rw [ByteArray.getElem?_lt' s _ h] at hs
  rw [run_index_string w t s .u8 1 ht]
  rw [dif_pos (by omega)]
  have : s[(1 : Int).toNat]'(by simpa using h) = 1 := by simpa using hs
  rw [this]
  rfl
theorem events_index8 (t : TypeId) (ht : Tryz.prog.underlying t = some .string) (w : World) (es : Array Event) (s : ByteArray) (hs : s[1]? = some 1) : (Instr.index t (.string s) (.int .u8 1)).events Tryz.prog w es = es := by
  simp [Instr.index, asIntOf, run_underlying ht, hs, go_sem]
theorem val_run {P : Program} {s : Sem Value} {v : Value} {w w' : World} (h : s.run P w = .ok v w') : (do pure (Next.value (← s)) : Sem Next).run P w = .ok (.value v) w' := by
  simp [Sem.run_bind, h, Result.andThen]
theorem val_events {P : Program} {s : Sem Value} {v : Value} {w w' : World} {es : Array Event} (h : s.run P w = .ok v w') (he : ∀ es, s.events P w es = es) : (do pure (Next.value (← s)) : Sem Next).events P w es = es := by
  simp [go_sem, h, he]
section
variable {E : Event → Prop} {Stop : Goroutine → World → Prop} {b₀ : Frame} {a₀ : Act} {ops : Array Oper} {i : Nat} {rest : List Nat} {k : List Item} {cs : List Frame} {n : Nat} {W : World}
theorem len64_one (hk : ∀ d, Goes Tryz.prog true AtRel (DE E) Stop n (G (b₀.at (a₀.put ((ops[i]?).bind (·.dst)) (.int .i64 1)) (.inRegion ops rest :: k)) cs) (W.at d)) :
    Goes Tryz.prog true AtRel (DE E) Stop (n + 50) (G ((base 95).at ⟨#[.int .u64 1, undef, undef, undef, undef, undef, undef, undef, undef, undef, undef, undef, undef, undef, undef, undef, undef, undef, undef, undef, undef, undef, undef, undef, undef], []⟩ [.code (Tryz.f95.body.getD .skip)]) (b₀.at a₀ (.inRegion ops (i :: rest) :: k) :: cs)) W := by
  simp only [Tryz.f95, Option.getD_some]
  have h8 : IntKind.u8.wrap 1 = 1 := by decide
  have h9 : IntKind.i64.wrap 1 = 1 := by decide
  have h10 : IntKind.i64.wrap (0 + 1) = 1 := by decide
  repeat (first
    | (l_c stepG_seq)
    | (l_c stepG_region_end)
    | (l_c stepG_skip)
    | (l_c stepG_block)
    | (l_c stepG_loop)
    | (l_c stepG_inLoop)
    | (l_c stepG_inBlock)
    | (l_c stepG_ret')
    | (l_c stepG_end)
    | (l_reg)
    | (l_cond true)
    | (l_cond false)
    | (l_in; refine goes_exit rfl ?_; refine ⟨by u_nil, ?_⟩)
    | (l_op)
    | (l_leave1 Tryz.func95))
  refine goes_opv (v := .int .u8 1) (W' := W) rfl rfl (by k_ne) (fun d => ?_) (fun d e he => ?_) (fun d => ?_)
  · exact val_run (run_index8 _ rfl _ _ (by kernel_rfl))
  · rw [show (execOp _ _).events _ _ _ = _ from val_events (run_index8 _ rfl _ _ (by kernel_rfl)) (fun es => events_index8 _ rfl _ _ _ (by kernel_rfl))] at he
    simp at he
  walk_nrm
  repeat (first
    | (l_c stepG_seq)
    | (l_c stepG_region_end)
    | (l_c stepG_skip)
    | (l_c stepG_block)
    | (l_c stepG_loop)
    | (l_c stepG_inLoop)
    | (l_c stepG_inBlock)
    | (l_c stepG_ret')
    | (l_c stepG_end)
    | (l_reg)
    | (l_cond true)
    | (l_cond false)
    | (l_in; refine goes_exit rfl ?_; refine ⟨by u_nil, ?_⟩)
    | (l_op; try simp only [h9, h10])
    | (l_leave1 Tryz.func95))
  exact Goes.mono (hk _) (by omega)
theorem len_one (hk : ∀ d, Goes Tryz.prog true AtRel (DE E) Stop n (G (b₀.at (a₀.put ((ops[i]?).bind (·.dst)) (.int .i64 1)) (.inRegion ops rest :: k)) cs) (W.at d)) :
    Goes Tryz.prog true AtRel (DE E) Stop (n + 80) (G ((base 75).at ⟨#[.int .u64 1, undef, undef, undef, undef, undef, undef, undef], []⟩ [.code (Tryz.f75.body.getD .skip)]) (b₀.at a₀ (.inRegion ops (i :: rest) :: k) :: cs)) W := by
  simp only [Tryz.f75, Option.getD_some]
  repeat (first
    | (l_c stepG_seq)
    | (l_c stepG_region_end)
    | (l_c stepG_skip)
    | (l_c stepG_block)
    | (l_c stepG_loop)
    | (l_c stepG_inLoop)
    | (l_c stepG_inBlock)
    | (l_c stepG_ret')
    | (l_c stepG_end)
    | (l_reg)
    | (l_cond true)
    | (l_cond false)
    | (l_in; refine goes_exit rfl ?_; refine ⟨by u_nil, ?_⟩)
    | (l_op)
    | (l_leave1 Tryz.func75))
  l_call Tryz.func95 nm95 Tryz.f95
  refine len64_one (fun d => ?_)
  walk_nrm
  repeat (first
    | (l_c stepG_seq)
    | (l_c stepG_region_end)
    | (l_c stepG_skip)
    | (l_c stepG_block)
    | (l_c stepG_loop)
    | (l_c stepG_inLoop)
    | (l_c stepG_inBlock)
    | (l_c stepG_ret')
    | (l_c stepG_end)
    | (l_reg)
    | (l_cond true)
    | (l_cond false)
    | (l_in; refine goes_exit rfl ?_; refine ⟨by u_nil, ?_⟩)
    | (l_op)
    | (l_leave1 Tryz.func75))
  exact Goes.mono (hk _) (by omega)
theorem ins_one {V : Value} (hk : ∀ d, Goes Tryz.prog true AtRel (DE E) Stop n (G (b₀.at (a₀.put ((ops[i]?).bind (·.dst)) (.tuple #[])) (.inRegion ops rest :: k)) cs) (W.at d)) :
    Goes Tryz.prog true AtRel (DE E) Stop (n + 40) (G ((base 85).at ⟨#[V, .int .i64 0, .int .i64 1, undef, undef, undef, undef, undef, undef, undef, undef, undef, undef, undef, undef, undef, undef, undef, undef, undef, undef, undef, undef, undef, undef, undef, undef, undef, undef, undef, undef, undef, undef, undef, undef, undef, undef, undef, undef, undef, undef, undef, undef, undef, undef, undef, undef, undef, undef], []⟩ [.code (Tryz.f85.body.getD .skip)]) (b₀.at a₀ (.inRegion ops (i :: rest) :: k) :: cs)) W := by
  simp only [Tryz.f85, Option.getD_some]
  have h9 : IntKind.i64.wrap (0 + 1) = 1 := by decide
  repeat (first
    | (l_c stepG_seq)
    | (l_c stepG_region_end)
    | (l_c stepG_skip)
    | (l_c stepG_block)
    | (l_c stepG_loop)
    | (l_c stepG_inLoop)
    | (l_c stepG_inBlock)
    | (l_c stepG_ret')
    | (l_c stepG_end)
    | (l_reg)
    | (l_cond true)
    | (l_cond false)
    | (l_in; refine goes_exit rfl ?_; refine ⟨by u_nil, ?_⟩)
    | (l_op; try simp only [h9])
    | (l_leave0 Tryz.func85))
  exact Goes.mono (hk _) (by omega)
theorem pdq_one {V : Value} (hk : ∀ d, Goes Tryz.prog true AtRel (DE E) Stop n (G (b₀.at (a₀.put ((ops[i]?).bind (·.dst)) (.tuple #[])) (.inRegion ops rest :: k)) cs) (W.at d)) :
    Goes Tryz.prog true AtRel (DE E) Stop (n + 100) (G ((base 74).at ⟨#[V, .int .i64 0, .int .i64 1, .int .i64 1, undef, undef, undef, undef, undef, undef, undef, undef, undef, undef, undef, undef, undef, undef, undef, undef, undef, undef, undef, undef, undef, undef, undef, undef, undef, undef, undef, undef, undef, undef, undef, undef, undef, undef, undef, undef, undef, undef, undef, undef, undef, undef, undef, undef, undef, undef, undef, undef, undef, undef, undef, undef, undef, undef, undef, undef, undef, undef, undef, undef, undef, undef, undef, undef, undef, undef, undef, undef, undef, undef, undef, undef, undef, undef, undef, undef, undef, undef, undef, undef, undef, undef, undef, undef, undef, undef, undef, undef, undef, undef, undef, undef, undef, undef, undef, undef, undef, undef, undef, undef, undef, undef, undef, undef, undef, undef, undef, undef, undef, undef, undef, undef, undef, undef, undef, undef, undef, undef, undef, undef, undef, undef, undef, undef, undef, undef, undef, undef, undef, undef], []⟩ [.code (Tryz.f74.body.getD .skip)]) (b₀.at a₀ (.inRegion ops (i :: rest) :: k) :: cs)) W := by
  simp only [Tryz.f74, Option.getD_some]
  have h9 : IntKind.i64.wrap (1 - 0) = 1 := by decide
  repeat (first
    | (l_c stepG_seq)
    | (l_c stepG_region_end)
    | (l_c stepG_skip)
    | (l_c stepG_block)
    | (l_c stepG_loop)
    | (l_c stepG_inLoop)
    | (l_c stepG_inBlock)
    | (l_c stepG_ret')
    | (l_c stepG_end)
    | (l_reg)
    | (l_cond true)
    | (l_cond false)
    | (l_in; refine goes_exit rfl ?_; refine ⟨by u_nil, ?_⟩)
    | (l_op; try simp only [h9])
    | (l_leave0 Tryz.func74))
  l_call Tryz.func85 nm85 Tryz.f85
  refine ins_one (fun d => ?_)
  walk_nrm
  repeat (first
    | (l_c stepG_seq)
    | (l_c stepG_region_end)
    | (l_c stepG_skip)
    | (l_c stepG_block)
    | (l_c stepG_loop)
    | (l_c stepG_inLoop)
    | (l_c stepG_inBlock)
    | (l_c stepG_ret')
    | (l_c stepG_end)
    | (l_reg)
    | (l_cond true)
    | (l_cond false)
    | (l_in; refine goes_exit rfl ?_; refine ⟨by u_nil, ?_⟩)
    | (l_op)
    | (l_leave0 Tryz.func74))
  exact Goes.mono (hk _) (by omega)
theorem sort_one {sb cap : Nat} (hk : ∀ d, Goes Tryz.prog true AtRel (DE E) Stop n (G (b₀.at (a₀.put ((ops[i]?).bind (·.dst)) (.tuple #[])) (.inRegion ops rest :: k)) cs) (W.at d)) :
    Goes Tryz.prog true AtRel (DE E) Stop (n + 250) (G ((base 46).at ⟨#[.slice (some ⟨sb, 0, none⟩) 1 cap, undef, undef, undef, undef, undef, undef, undef, undef, undef, undef], []⟩ [.code (Tryz.f46.body.getD .skip)]) (b₀.at a₀ (.inRegion ops (i :: rest) :: k) :: cs)) W := by
  simp only [Tryz.f46, Option.getD_some]
  have h9 : IntKind.u64.wrap 1 = 1 := by decide
  have h8 : goInt (1 : Nat) = Value.int .i64 1 := by rfl
  repeat (first
    | (l_c stepG_seq)
    | (l_c stepG_region_end)
    | (l_c stepG_skip)
    | (l_c stepG_block)
    | (l_c stepG_loop)
    | (l_c stepG_inLoop)
    | (l_c stepG_inBlock)
    | (l_c stepG_ret')
    | (l_c stepG_end)
    | (l_reg)
    | (l_cond true)
    | (l_cond false)
    | (l_in; refine goes_exit rfl ?_; refine ⟨by u_nil, ?_⟩)
    | (l_op; try simp only [h8, h9])
    | (l_leave0 Tryz.func46))
  l_call Tryz.func75 nm75 Tryz.f75
  refine len_one (fun d => ?_)
  walk_nrm
  repeat (first
    | (l_c stepG_seq)
    | (l_c stepG_region_end)
    | (l_c stepG_skip)
    | (l_c stepG_block)
    | (l_c stepG_loop)
    | (l_c stepG_inLoop)
    | (l_c stepG_inBlock)
    | (l_c stepG_ret')
    | (l_c stepG_end)
    | (l_reg)
    | (l_cond true)
    | (l_cond false)
    | (l_in; refine goes_exit rfl ?_; refine ⟨by u_nil, ?_⟩)
    | (l_op)
    | (l_leave0 Tryz.func46))
  l_call Tryz.func74 nm74 Tryz.f74
  refine pdq_one (fun d => ?_)
  walk_nrm
  repeat (first
    | (l_c stepG_seq)
    | (l_c stepG_region_end)
    | (l_c stepG_skip)
    | (l_c stepG_block)
    | (l_c stepG_loop)
    | (l_c stepG_inLoop)
    | (l_c stepG_inBlock)
    | (l_c stepG_ret')
    | (l_c stepG_end)
    | (l_reg)
    | (l_cond true)
    | (l_cond false)
    | (l_in; refine goes_exit rfl ?_; refine ⟨by u_nil, ?_⟩)
    | (l_op)
    | (l_leave0 Tryz.func46))
  exact Goes.mono (hk _) (by omega)
end
end Pool
end Go.Proofs.YtdkpbobglogmoaaGreat
namespace Go.Proofs.YtdkpbobglogmoaaGreat
open Go Go.Conc Go.RowKit Go.Conc.Lib Go.ConcX.Gen
namespace Pool
def after (W : World) (l : List Obj) : World := { W with heap := W.heap ++ l.toArray }
section
variable {W : World} {l : List Obj}
theorem after_nil : after W [] = W := by simp [after]
theorem after_alloc (o : Obj) : (after W l).alloc o = after W (l ++ [o]) := by
  simp only [after, World.alloc]
  congr 1
  apply Array.ext'
  simp
theorem after_size : (after W l).heap.size = W.heap.size + l.length := by simp [after]
theorem after_new {j : Nat} : (after W l).heap[W.heap.size + j]? = l[j]? := by
  show (W.heap ++ l.toArray)[W.heap.size + j]? = _
  rw [Array.getElem?_append_right (by omega)]
  simp
theorem after_new0 : (after W l).heap[W.heap.size]? = l[0]? := by simpa using after_new (W := W) (l := l) (j := 0)
theorem after_old {b : Nat} (h : b < W.heap.size) : (after W l).heap[b]? = W.heap[b]? := by simp [after, Array.getElem?_append, h]
theorem after_put {j : Nat} {o : Obj} (hj : j < l.length) : (after W l).putObj (W.heap.size + j) o = after W (l.set j o) := by
  simp only [after, World.putObj]
  congr 1
  rw [Array.setIfInBounds_append_right (by omega)]
  simp
theorem after_cell {j i : Nat} {c : Array Value} {e : TypeId} {f : Nat × Nat} {v : Value} (h : l[j]? = some (.cells c e f)) (hc : c[i]? = some v) : (after W l).cell? ⟨W.heap.size + j, i, none⟩ = some v := by
  have : (after W l).heap[W.heap.size + j]? = some (.cells c e f) := after_new.trans h
  simp [World.cell?, this, hc]
theorem after_cell_old {b i : Nat} {v : Value} (h : W.cell? ⟨b, i, none⟩ = some v) : (after W l).cell? ⟨b, i, none⟩ = some v := by
  have hb : b < W.heap.size := by
    by_cases hb : b < W.heap.size
    · exact hb
    · simp [World.cell?, Array.getElem?_eq_none (Nat.not_lt.1 hb)] at h
  unfold World.cell? at h ⊢
  rw [after_old hb]
  exact h
end
section
variable {P : Program} {w : World} {es : Array Event}
def NoRow : Obj → Prop
  | .cells .. => False
  | _ => True
theorem run_getObj_is {r : Nat} {o : Obj} (h : w.heap[r]? = some o) (hn : NoRow o) : (getObj r).run P w = .ok o w := by
  cases o <;> first | exact hn.elim | simp [getObj, Sem.run, h]
theorem events_getObj_is {r : Nat} {o : Obj} (h : w.heap[r]? = some o) (hn : NoRow o) : (getObj r).events P w es = es.push ⟨.obj r, false, o.isChan⟩ := by
  cases o <;> first | exact hn.elim | simp [getObj, Sem.events, Sem.runT, h, -Sem.runT_eq]
theorem run_setObj_is {r : Nat} {o o' : Obj} (h : w.heap[r]? = some o') (hn : NoRow o') : (setObj r o).run P w = .ok () (w.putObj r o) := by
  cases o' <;> first | exact hn.elim | simp [setObj, Sem.run, h, World.putObj]
theorem events_setObj_is {r : Nat} {o o' : Obj} (h : w.heap[r]? = some o') (hn : NoRow o') : (setObj r o).events P w es = es.push ⟨.obj r, true, o.isChan⟩ := by
  cases o' <;> first | exact hn.elim | simp [setObj, Sem.events, Sem.runT, h, -Sem.runT_eq]
theorem run_getLoop_is {l : Nat} {r : Loop} (h : w.heap[l]? = some (.loop r)) : (Instr.getLoop l).run P w = .ok r w := run_getLoop h
theorem events_getLoop_is {l : Nat} {r : Loop} (h : w.heap[l]? = some (.loop r)) : (Instr.getLoop l).events P w es = es.push ⟨.obj l, false, false⟩ := by
  simp [Instr.getLoop, run_getObj_is h trivial, events_getObj_is h trivial, Obj.isChan]
end
section
variable {P : Program} {b : Frame} {a : Act} {k : List Item} {cs : List Frame} {w : World}
def obj2 (l : Nat) : Array Event := #[⟨.obj l, false, false⟩, ⟨.obj l, true, false⟩]
theorem step_rangeFunc {f : Operand} {ps : Array Tmp} {asg bo : Code} {fid : FuncId} {cap : Array Value} {fn : Func} {c : Code} (hr : b.roundOf = none) (hf : a.eval f = .func (.func fid) #[] cap) (hfn : P.funcs[fid]? = some fn) (hname : (fn.name == "runtime.NumGoroutine") = false) (hb : fn.body = some c) :
    stepG P true (G (b.at a (.code (.rangeFunc f ps asg bo) :: k)) cs) w =
      .go (G (Frame.enter P fid (#[.func (.yield (w.heap.size + 1)) #[] #[]] ++ cap) .normal) (b.at ⟨a.tmps, { target := .collected w.heap.size, args := #[] } :: a.defers⟩ (.inRangeFunc (w.heap.size + 1) :: k) :: cs))
        ((w.alloc (.deferred (some []))).alloc (.loop { state := .ready, pending := none, fn := b.fn, tmps := a.tmps, params := ps, assign := asg, body := bo, defers := w.heap.size })) #[] := by
  have e := run_enterLoop_outer (P := P) (w := w) b.fn a.tmps ps asg bo
  have ev : (Instr.enterLoop b.fn a.tmps ps asg bo none).events P w #[] = #[] := by simp [Instr.enterLoop]
  have hev : ∀ (fr : Frame), fr.tmps = a.tmps → fr.eval f = .func (.func fid) #[] cap := fun fr ht => by
    cases f <;> simp_all [Frame.eval, Act.eval]
  have hrun : ∀ (fr : Frame) (w2 : World), fr.tmps = a.tmps → ∀ l, (do let d ← resolve fr.eval { callee := .value f, args := #[.const (.func (.yield l) #[] #[])], argTypes := #[] } 0; invoke d.target d.args : Sem Next).run P w2 = .ok (.enter fid (#[.func (.yield l) #[] #[]] ++ cap)) w2 ∧
      (do let d ← resolve fr.eval { callee := .value f, args := #[.const (.func (.yield l) #[] #[])], argTypes := #[] } 0; invoke d.target d.args : Sem Next).events P w2 #[] = #[] := by
    intro fr w2 ht l
    have hcv : ∀ v, fr.eval (.const v) = v := fun _ => rfl
    have hne := beq_eq_false_iff_ne.1 hname
    constructor
    · simp [resolve, hev fr ht, hcv, Deferred.ofValue, invoke, callFunc, hfn, hb, hne]
    · simp [resolve, hev fr ht, hcv, Deferred.ofValue, invoke, callFunc, hfn, hb, hne]
  obtain ⟨h2, h3⟩ := hrun { fn := b.fn, tmps := a.tmps, todo := .inRangeFunc (w.heap.size + 1) :: k, defers := { target := .collected w.heap.size, args := #[] } :: a.defers, mode := .run, kind := b.kind } ((w.alloc (.deferred (some []))).alloc (.loop { state := .ready, pending := none, fn := b.fn, tmps := a.tmps, params := ps, assign := asg, body := bo, defers := w.heap.size })) rfl (w.heap.size + 1)
  simp only [G, stepG, stepG.exec, Frame.at, hr, Sem.runT_eq, e, ev, stepG.apply, List.cons_append, List.nil_append, h2, h3]
  simp [seen_none, GStep.after]
def Rd (b : Frame) (l : Nat) (a : Act) (X : List Item) : Frame := { b.at a X with roundOf := some l }
section
variable {l : Nat}
theorem rd_block {id : Nat} {c : Code} : stepG P true (G (Rd b l a (.code (.block id c) :: k)) cs) w = .go (G (Rd b l a (.code c :: .inBlock id :: k)) cs) w := by simp [G, stepG, stepG.exec, Frame.at, Rd]
theorem rd_inBlock {id : Nat} : stepG P true (G (Rd b l a (.inBlock id :: k)) cs) w = .go (G (Rd b l a k) cs) w := by simp [G, stepG, stepG.exec, Frame.at, Rd]
theorem rd_region {id : Nat} {ops : Array Oper} : stepG P true (G (Rd b l a (.code (.region id ops false) :: k)) cs) w = .go (G (Rd b l a (.inRegion ops (List.range ops.size) :: k)) cs) w := by simp [G, stepG, stepG.exec, Frame.at, Rd]
theorem rd_region_end {ops : Array Oper} : stepG P true (G (Rd b l a (.inRegion ops [] :: k)) cs) w = .go (G (Rd b l a k) cs) w := by simp [G, stepG, stepG.exec, Frame.at, Rd]
theorem rd_eval (x : Operand) (X : List Item) : (Rd b l a X).eval x = a.eval x := by cases x <;> rfl
def NoDefer : Op → Prop
  | .defer _ => False
  | _ => True
theorem rd_oper {ops : Array Oper} {i : Nat} {rest : List Nat} {o : Oper} (ho : ops[i]? = some o) (hw : Region.wanted o (yielded ops a.tmps) = true) (hd : NoDefer o.op) :
    stepG P true (G (Rd b l a (.inRegion ops (i :: rest) :: k)) cs) w = stepG.apply P true (Rd b l a (.inRegion ops (i :: rest) :: k)) cs none (execOp a.eval o) w := by
  have he : (Rd b l a (.inRegion ops (i :: rest) :: k)).eval = a.eval := funext fun x => rd_eval x _
  simp only [Frame.at, Rd] at he
  obtain ⟨dst, op, type, pos, aft, guard⟩ := o
  cases op <;> first | exact hd.elim | simp [G, stepG, stepG.exec, stepG.oper, Frame.oper?, Frame.at, Rd, ho, hw, he]
theorem rd_value {ops : Array Oper} {i : Nat} {rest : List Nat} {o : Oper} {v : Value} {w' : World} (ho : ops[i]? = some o) (hw : Region.wanted o (yielded ops a.tmps) = true) (hd : NoDefer o.op)
    (hk : b.kind ≠ .early) (hr : (execOp a.eval o).run P w = .ok (.value v) w') :
    stepG P true (G (Rd b l a (.inRegion ops (i :: rest) :: k)) cs) w = .go (G (Rd b l (a.put o.dst v) (.inRegion ops rest :: k)) cs) w' (listed P b.fn a o w) := by
  have hk' : (b.kind == CallKind.early) = false := by simpa using hk
  rw [rd_oper ho hw hd]
  cases hdst : o.dst <;> simp [stepG.apply, hr, G, Frame.at, Rd, hk', GStep.after, listed, Frame.finish, ho, Act.put, hdst]
theorem rd_none {ops : Array Oper} {i : Nat} {rest : List Nat} {o : Oper} {w' : World} (ho : ops[i]? = some o) (hw : Region.wanted o (yielded ops a.tmps) = true) (hd : NoDefer o.op)
    (hk : b.kind ≠ .early) (hr : (execOp a.eval o).run P w = .ok .skip w') :
    stepG P true (G (Rd b l a (.inRegion ops (i :: rest) :: k)) cs) w = .go (G (Rd b l (a.put o.dst undef) (.inRegion ops rest :: k)) cs) w' (listed P b.fn a o w) := by
  have hk' : (b.kind == CallKind.early) = false := by simpa using hk
  rw [rd_oper ho hw hd]
  cases hdst : o.dst <;> simp [stepG.apply, hr, G, Frame.at, Rd, hk', GStep.after, listed, Frame.finish, ho, Act.put, hdst]
theorem rd_begin {r : Loop} (hk : b.kind ≠ .early) (h : w.heap[l]? = some (.loop r)) (hr : r.state = .ready) :
    stepG P true (G (Rd b l a (.beginRound :: k)) cs) w = .go (G (Rd b l a k) cs) (w.putObj l (.loop { r with state := .busy })) (seen P b.fn (obj2 l)) := by
  have hk' : (b.kind == CallKind.early) = false := by simpa using hk
  have e := run_beginRound (P := P) h hr
  have ev : (Instr.beginRound l).events P w #[] = obj2 l := by
    simp [Instr.beginRound, run_getLoop_is h, events_getLoop_is h, run_setObj_is h trivial, events_setObj_is h trivial, hr, obj2, Obj.isChan]
  simp [G, stepG, stepG.exec, Frame.at, Rd, stepG.apply, e, ev, hk', GStep.after, Frame.finish, Result.andThen]
theorem rd_end {r : Loop} {c : Frame} (hn : b.kind = .normal) (hd : a.defers = []) (h : w.heap[l]? = some (.loop r)) :
    stepG P true (G (Rd b l a []) (c :: cs)) w = .go (G (c.finish (.bool true)) cs) (w.putObj l (.loop { r with state := .ready, pending := none })) (seen P b.fn (obj2 l)) := by
  have e := run_endRound (P := P) none h
  have ev : (Instr.endRound l none).events P w #[] = obj2 l := by
    simp [Instr.endRound, run_getLoop_is h, events_getLoop_is h, run_setObj_is h trivial, events_setObj_is h trivial, obj2, Obj.isChan]
  simp [G, stepG, stepG.exec, Frame.at, Rd, e, ev, GStep.after, doReturn, hn]
end
theorem step_yield {ops : Array Oper} {i : Nat} {rest : List Nat} {o : Oper} {l : Nat} {r : Loop} {f : Operand} {args : Array Operand} {ats : Array TypeId} (ho : ops[i]? = some o) (hw : Region.wanted o (yielded ops a.tmps) = true) (hk : b.kind ≠ .early)
    (hop : o.op = .call { callee := .value f, args, argTypes := ats }) (hf : a.eval f = .func (.yield l) #[] #[]) (h : w.heap[l]? = some (.loop r)) (hs : args.size = r.params.size) :
    stepG P true (G (b.at a (.inRegion ops (i :: rest) :: k)) cs) w = .go (G (Frame.round l r.fn ((r.params.zip (args.map a.eval)).foldl (fun tmps (t, a) => tmps.setIfInBounds t a) r.tmps) r.assign r.body .normal) (b.at a (.inRegion ops (i :: rest) :: k) :: cs)) w (seen P b.fn #[⟨.obj l, false, false⟩]) := by
  have hk' : (b.kind == CallKind.early) = false := by simpa using hk
  have e := run_yield (P := P) (args := args.map a.eval) h (by simpa using hs)
  have ev : (Instr.yield l (args.map a.eval)).events P w #[] = #[⟨.obj l, false, false⟩] := by
    simp [Instr.yield, run_getLoop_is h, events_getLoop_is h, hs]
  have e2 : (execOp a.eval o).run P w = .ok (.round l r.fn ((r.params.zip (args.map a.eval)).foldl (fun tmps (t, a) => tmps.setIfInBounds t a) r.tmps) r.assign r.body) w := by
    unfold execOp
    simp [hop, resolve, hf, Deferred.ofValue, invoke, e]
  have e3 : (execOp a.eval o).events P w #[] = #[⟨.obj l, false, false⟩] := by
    unfold execOp
    simp [hop, resolve, hf, Deferred.ofValue, invoke, ev]
  rw [stepG_oper ho hw]
  simp [stepG.apply, e2, e3, G, Frame.at, hk', GStep.after]
theorem step_backRange {b₀ : Frame} {a₀ : Act} {fn : Func} {todo : List Item} {l : Nat} (hn : b.kind = .normal) (hd : a.defers = []) (hf : P.funcs[b.fn]? = some fn) (hr : fn.results = #[]) :
    stepG P true (G { b.at a todo with mode := .returning } (b₀.at a₀ (.inRangeFunc l :: k) :: cs)) w = .go (G (b₀.at a₀ (.endRangeFunc l :: k)) cs) w #[] := by
  rw [stepG_leave hn hd hf (results_none hr _ P w) (events_results_none hr _ _)]
  rfl
theorem step_endRange {l : Nat} {r : Loop} (h : w.heap[l]? = some (.loop r)) (hb : r.state ≠ .busy) (hp : r.pending = none) :
    stepG P true (G (b.at a (.endRangeFunc l :: k)) cs) w = .go (G (b.at a k) cs) (w.putObj l (.loop { r with state := .exhausted })) (seen P b.fn (obj2 l)) := by
  have e := run_endLoop (P := P) h hb
  have ev : (Instr.endLoop l).events P w #[] = obj2 l := by
    have : (r.state == .busy) = false := by simpa using hb
    simp [Instr.endLoop, run_getLoop_is h, events_getLoop_is h, run_setObj_is h trivial, events_setObj_is h trivial, this, obj2, Obj.isChan]
    intro e
    exact absurd e hb
  simp [G, stepG, stepG.exec, Frame.at, e, ev, GStep.after, hp]
theorem step_collect {todo : List Item} {d : Nat} {T : Array Value} {ds : List Deferred} (h : w.heap[d]? = some (.deferred (some []))) :
    stepG P true (G { b.at ⟨T, { target := .collected d, args := #[] } :: ds⟩ todo with mode := .returning } cs) w = .go (G { b.at ⟨T, ds⟩ todo with mode := .returning } cs) (w.putObj d (.deferred none)) (seen P b.fn (obj2 d)) := by
  have e := run_takeDeferred (P := P) h
  have ev : (Instr.takeDeferred d).events P w #[] = obj2 d := by
    simp [Instr.takeDeferred, run_getObj_is h trivial, events_getObj_is h trivial, run_setObj_is h trivial, events_setObj_is h trivial, obj2, Obj.isChan]
  simp [G, stepG, unwind, Frame.at, e, ev, GStep.after]
end
end Pool
end Go.Proofs.YtdkpbobglogmoaaGreat
