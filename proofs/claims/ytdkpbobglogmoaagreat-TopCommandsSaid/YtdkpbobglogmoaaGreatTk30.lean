/- Parts of the proof of TopCommandsProof: TopRun4 TopRun5 TopRun Frame OpsRd OpsGen Structs. -/
import Derived.Test.YtdkpbobglogmoaaGreatChecked
import Derived.Deep.Slices
import Derived.Deep.Fields
import Derived.Test.YtdkpbobglogmoaaGreatTk14
import Derived.Test.YtdkpbobglogmoaaGreatTk24
import Derived.Test.YtdkpbobglogmoaaGreatTk25
import Derived.Test.YtdkpbobglogmoaaGreatTk28
import Derived.Test.YtdkpbobglogmoaaGreatTk29
set_option linter.unusedVariables false
set_option linter.unusedSimpArgs false
set_option maxRecDepth 100000
set_option maxHeartbeats 32000000
namespace Go.Proofs.YtdkpbobglogmoaaGreat
open Go Go.Conc Go.RowKit Go.Conc.Lib
open Go.ConcX.Gen (at_at)
namespace Pool
open Ren (Loc.blk SaidAll Bes Ran VR VsR WR Slf gor call_beside rest_beside MayO GhostO fram)
section
variable {gs : Array Goroutine} {w : World} {sl : Option (Nat × Nat)} {t : Trace}
theorem page_length : pageY.length = 24 := page_ok.len
theorem stage7 {pb Wg : Nat} {fr : Nat × Nat} {k : Frame} {K' : List Frame} (hpb : w.heap[pb]? = some (.cells (pageY.map (Value.int .u8)).toArray 5 fr)) (hgw : Tryz.prog.globals.size ≤ w.heap.size) (hne : pb ≠ Wg) (hWg : Wg < w.heap.size)
    (hb : Bes Tryz.prog (shut Wg) gs (G (Frame.enter Tryz.prog 12 #[.slice (some ⟨pb, 0, none⟩) 24 24] .normal) (k :: K')) w t) :
    ∃ N gs' w' sl' t' kb n, runNT Tryz.prog N (crowd gs w sl) t = (.next (crowd gs' w' sl'), t') ∧ Ran Tryz.prog (shut Wg) (fun _ => False) gs w gs' (G (k.finish (.tuple #[.slice (some ⟨kb, 0, none⟩) 3 n, .nilIface])) K') w' t' := by
  have hpl := (Array.getElem?_eq_some_iff.1 hpb).1
  have hcall : ∀ wh : World, wh.heap.size = w.heap.size → (∀ b, b = pb → ∃ x o, wh.heap[b]? = some x ∧ w.heap[b]? = some o ∧ GhostO (Slf fun b => b = pb) (b = pb) x o) → Calls Tryz.prog 12 #[.slice (some ⟨pb, 0, none⟩) 24 24] wh fun e w' => ∃ v, e = .returned v ∧ ∃ g n, v = .tuple #[.slice (some ⟨g, 0, none⟩) 3 n, .nilIface] := fun wh hsz hat => by
    obtain ⟨x, o, h1, h2, h3⟩ := hat pb rfl
    rw [hpb] at h2
    cases h2
    refine (code_protect pb 0 24 pageY wh (Nat.le_refl _) (by rw [hsz]; exact hpl) (fun i hi => ?_)).mono ?_
    · refine ghost_at h1 hpb h3 ?_
      have hl := page_length
      simp [World.cell?, hpb, List.getD, show i < pageY.length by omega]
    · rintro e w' ⟨⟨g, n, rfl⟩, _⟩
      exact ⟨_, rfl, g, n, rfl⟩
  obtain ⟨N, gs', w', sl', t', v, u, R, wh, e1, e2, ⟨g, n, rfl⟩, hv, hw⟩ := call_beside (P := Tryz.prog) (gl := glN) (fs := fsB) (sl := sl) fragT (fun _ => rfl) (f := 12) (fn := Tryz.f12) (Post := fun v wh => ∃ g n, v = .tuple #[.slice (some ⟨g, 0, none⟩) 3 n, .nilIface])
    (fun b => b = pb) (fun b => b = pb) (by kernel_rfl) Tryz.func12 (fun b hb => ⟨_, (congrArg (fun b => w.heap[b]?) (show b = pb from hb)).trans hpb, _, _, _, rfl⟩) (fun b h => h) hgw (Ren.VsR.one (.slice _ _ ⟨⟨rfl, rfl⟩, rfl, rfl⟩)) hcall (fun v w τ d h => h)
    (fun l b h1 h2 => by rw [show Loc.blk l = some Wg from h1] at h2; cases h2; exact ⟨fun e => hne e.symm, hWg⟩) hb
  obtain ⟨d, rfl, hd⟩ := vr_tuple hv (by simp)
  obtain ⟨x, y, rfl, hx, hy⟩ := vs_two hd
  obtain ⟨⟨kb, ko, ks⟩, rfl, q1, q2, q3⟩ := vr_slice hx
  simp only at q1 q2 q3
  subst q2 q3
  cases hy
  exact ⟨N, gs', w', sl', t', kb, n, e1, ⟨e2.size, e2.bes, e2.heap, fun b h1 h2 => e2.kept b h1 fun h3 => h3.2 h3.1, e2.rest⟩⟩
theorem stage8 {Wg fb cf kb ko ck cb : Nat} {T U : Array Value} {a0 a1 a3 a4 : Int} {vp vc : Value} (sT : T.size = 51) (e2 : T.getD 2 undef = .nilIface) (e3 : T.getD 3 undef = .slice (some ⟨fb, 0, none⟩) 1 cf) (e4 : T.getD 4 undef = .nilIface) (e21 : T.getD 21 undef = .tuple #[.slice (some ⟨kb, ko, none⟩) 3 ck, .nilIface])
    (hU : Sl3 a0 a1 a3 a4 vp vc cb U) (hf : w.cell? ⟨fb, 0, none⟩ = some (.int .i64 1)) (hne : fb ≠ Wg)
    (hb : Bes Tryz.prog (shut Wg) gs (G ((base 4).at ⟨T, []⟩ [.inRegion oc4bbba [2, 3, 4, 5, 6], .code c4bbbb]) [topFr U]) w t) :
    ∃ N gs' sl' t' d T3, runNT Tryz.prog N (crowd gs w sl) t = (.next (crowd gs' (w.at d) sl'), t') ∧ gs'.size = gs.size ∧ Bes Tryz.prog (shut Wg) gs' (G ((base 3).at ⟨T3, []⟩ [.code c3bb]) []) (w.at d) t' ∧
      Sl3 a0 a1 a3 a4 vp vc cb T3 ∧ T3.getD 13 undef = .bool true ∧ T3.getD 23 undef = .bool true := by
  have hfl : fb < w.heap.size := cell_lt hf
  obtain ⟨N, gs', sl', t', g', w', r1, r2, r3, r4, r5, ⟨d, T3, rfl, rfl, r6⟩, _⟩ := go_on (P := Tryz.prog) (Shun := shut Wg) (sl := sl) (B := w.heap.size) (Ok := fun b => b = fb) (n := 160)
    (Stop := fun g' w' => ∃ d T3, g' = G ((base 3).at ⟨T3, []⟩ [.code c3bb]) [] ∧ w' = w.at d ∧ Sl3 a0 a1 a3 a4 vp vc cb T3 ∧ T3.getD 13 undef = .bool true ∧ T3.getD 23 undef = .bool true)
    (fun b h => ⟨by rw [show b = fb from h]; exact hfl, fun l hl e => by rw [show Loc.blk l = some Wg from hl] at e; cases e; exact hne h.symm⟩) hb (Nat.le_refl _)
    (go8 (n := 0) (lets_ok _) rfl sT hU.size e2 e3 e4 e21 hU.t0 hU.t1 hU.t2 hU.t3 hU.t4 hU.t5 hU.t11 hU.t12 hU.late hf fun d T3 h1 h2 h3 h4 h5 h6 h7 h8 h9 h10 h11 h12 => Goes.stop fun w1 hw1 => by
      obtain ⟨d2, rfl⟩ := hw1
      exact ⟨_, T3, rfl, rfl, ⟨h1, h2, h3, h4, h5, h6, h7, h8, h9, h12⟩, h10, h11⟩)
  exact ⟨N, gs', sl', t', d, T3, r1, r2, ⟨r3, r4, r5⟩, r6⟩
end
end Pool
end Go.Proofs.YtdkpbobglogmoaaGreat
namespace Go.Proofs.YtdkpbobglogmoaaGreat
open Go Go.Conc Go.RowKit Go.Conc.Lib
open Go.ConcX.Gen (at_at)
namespace Pool
open Ren (Loc.blk SaidAll Bes Ran VR VsR WR Slf gor call_beside rest_beside MayO GhostO fram)
theorem ghost_row {R : Ren.Rel} {ice : Prop} {x : Obj} {c : Array Value} {e : TypeId} {f : Nat × Nat} (h : GhostO R ice x (.cells c e f)) (hi : ¬ ice) (hc : ∀ v ∈ c, VR R v v) : x = .cells c e f := by
  cases h with
  | cells _ _ hv hp hn =>
    rename_i d
    have : d = c := Array.ext_getElem? fun i => by
      cases hci : c[i]? with
      | some v => exact hp i v hci (hc v (Array.mem_of_getElem? hci))
      | none =>
        have : c.size ≤ i := Array.getElem?_eq_none_iff.1 hci
        exact Array.getElem?_eq_none (by rw [hv.1]; exact this)
    rw [this]
  | ice _ _ _ _ h => exact absurd h hi
section
variable {gs : Array Goroutine} {w : World} {sl : Option (Nat × Nat)} {t : Trace}
theorem stage9 {Wg cb cap' : Nat} {nn at_ offset long x0 x1 x2 x3 x4 x5 : Int} {a' : Option Addr} {ps : List Int} {T : Array Value} (n0 : I64 nn) (a0 : I64 at_) (o0 : I64 offset) (l0 : I64 long) (b0 : I64 x0) (b1 : I64 x1) (b2 : I64 x2) (b3 : I64 x3) (pcap : ps.length ≤ cap') (pl : ps.length * 8 ≤ 140737488351232)
    (hpb : ∀ x ∈ ps, I64 x) (hp : ps.length = 0 ∨ ∃ b off, a' = some ⟨b, off, none⟩ ∧ b ≠ cb ∧ b < w.heap.size ∧ ∀ i, i < ps.length → w.cell? ⟨b, off + i, none⟩ = some (.int .i64 (ps.getD i 0))) (hva : ∀ ad, a' = some ad → (∃ o, w.heap[ad.block]? = some o ∧ MayO o) ∧ ad.block ≠ cb ∧ ad.block ≠ Wg ∧ ad.spot = none)
    (hcb : w.heap[cb]? = some (.cells #[.int .i64 x0, .int .i64 x1, .int .i64 x2, .int .i64 x3, .int .i64 x4, .int .i64 x5] 24)) (hcW : cb ≠ Wg) (hWg : Wg < w.heap.size) (hgw : Tryz.prog.globals.size ≤ w.heap.size)
    (hT : Sl3 nn at_ offset long (.slice a' ps.length cap') (.agg #[.int .i64 x0, .int .i64 x1, .int .i64 x2, .int .i64 x3, .int .i64 x4, .int .i64 x5]) cb T) (t13 : T.getD 13 undef = .bool true) (t23 : T.getD 23 undef = .bool true)
    (hb : Bes Tryz.prog (shut Wg) gs (G ((base 3).at ⟨T, []⟩ [.code c3bb]) []) w t) :
    ∃ (N : Nat) (gs' : Array Goroutine) (w' : World) (sl' : Option (Nat × Nat)) (t' : Trace) (tm : Array Value) (X : List Item) (m : FrameMode), runNT Tryz.prog N (crowd gs w sl) t = (.next (crowd gs' w' sl'), t') ∧ Ran Tryz.prog (shut Wg) (fun b => b = cb) gs w gs' (gor { fram 3 tm X ([], .normal) with mode := m } []) w' t' ∧ (m = .run ∧ X = [] ∨ m = .returning) ∧ tm.getD 12 undef = .bool true := by
  let S : Nat → Prop := fun b => b = cb ∨ ∃ ad, a' = some ad ∧ b = ad.block
  let I : Nat → Prop := fun b => ∃ ad, a' = some ad ∧ b = ad.block
  have hI : ∀ b, I b → S b := fun b h => .inr h
  have hcI : ¬ I cb := fun ⟨ad, h1, h2⟩ => (hva ad h1).2.1 h2.symm
  have hS : ∀ b, S b → ∃ o, w.heap[b]? = some o ∧ MayO o := by
    rintro b (rfl | ⟨ad, h1, rfl⟩)
    · exact ⟨_, hcb, _, _, _, rfl⟩
    · exact (hva ad h1).1
  have hval : ∀ (i : Nat) v, T[i]? = some v → VR (Slf S) v v := by
    intro i v hv
    have hi : i < 109 := by rw [← hT.size]; exact (Array.getElem?_eq_some_iff.1 hv).1
    have hg : T.getD i undef = v := by rw [Array.getD_eq_getD_getElem?, hv]; rfl
    by_cases hl : late3 i = true
    · rw [hT.late i hl] at hg
      subst hg
      exact Ren.VR.undef
    · have : i = 0 ∨ i = 1 ∨ i = 2 ∨ i = 3 ∨ i = 4 ∨ i = 5 ∨ i = 11 ∨ i = 12 ∨ i = 13 ∨ i = 23 := by
        simp [late3] at hl
        omega
      rcases this with rfl | rfl | rfl | rfl | rfl | rfl | rfl | rfl | rfl | rfl
      · rw [hT.t0] at hg; subst hg; exact .int _ _
      · rw [hT.t1] at hg; subst hg; exact .int _ _
      · rw [hT.t2] at hg; subst hg
        cases ha : a' with
        | none => exact .slice0 _ _
        | some ad => exact .slice _ _ ⟨⟨rfl, .inr ⟨ad, ha, rfl⟩⟩, rfl, rfl⟩
      · rw [hT.t3] at hg; subst hg; exact .int _ _
      · rw [hT.t4] at hg; subst hg; exact .int _ _
      · rw [hT.t5] at hg; subst hg
        have := Ren.VsR.self_list (R := Slf S) (l := [.int .i64 x0, .int .i64 x1, .int .i64 x2, .int .i64 x3, .int .i64 x4, .int .i64 x5]) fun v hv => by
          simp only [List.mem_cons, List.not_mem_nil, or_false] at hv
          rcases hv with rfl | rfl | rfl | rfl | rfl | rfl <;> exact .int _ _
        exact .agg this.1 this.2
      · rw [hT.t11] at hg; subst hg; exact .ptr ⟨⟨rfl, .inl rfl⟩, rfl, rfl⟩
      · rw [hT.t12] at hg; subst hg; exact .bool _
      · rw [t13] at hg; subst hg; exact .bool _
      · rw [t23] at hg; subst hg; exact .bool _
  have htop : T = topT nn at_ offset long x0 x1 x2 x3 x4 x5 a' ps cap' cb := top_arr hT.size hT.t0 hT.t1 hT.t2 hT.t3 hT.t4 hT.t5 hT.t11 hT.t12 t13 t23 hT.late
  have hVs : VsR (Slf S) T T := ⟨rfl, fun i v u h1 h2 => by rw [h1] at h2; cases h2; exact hval i v h1⟩
  have hwp : ∀ wh : World, wh.heap.size = w.heap.size → (∀ b, S b → ∃ x o, wh.heap[b]? = some x ∧ w.heap[b]? = some o ∧ GhostO (Slf S) (I b) x o) → c3bb.wp Tryz.prog (fun e a w => (e = .normal ∨ e = .ret) ∧ a.tmps.getD 12 undef = .bool true) ⟨T, []⟩ wh := fun wh hsz hat => by
    rw [rest3_is, htop]
    refine rest_wp wh nn at_ offset long x0 x1 x2 x3 x4 x5 n0 a0 o0 l0 b0 b1 b2 b3 a' ps cap' cb pcap pl hpb ?_ ?_
    · rcases hp with h | ⟨b, off, h1, h2, h3, h4⟩
      · exact .inl h
      · refine .inr ⟨b, off, h1, h2, by rw [hsz]; exact h3, fun i hi => ?_⟩
        obtain ⟨x, o, k1, k2, k3⟩ := hat b (.inr ⟨_, h1, rfl⟩)
        exact ghost_at k1 k2 k3 (h4 i hi)
    · obtain ⟨x, o, k1, k2, k3⟩ := hat cb (.inl rfl)
      rw [hcb] at k2
      cases k2
      have := ghost_row k3 hcI fun v hv => by
        simp only [List.mem_toArray, List.mem_cons, List.not_mem_nil, or_false] at hv
        rcases hv with rfl | rfl | rfl | rfl | rfl | rfl <;> exact .int _ _
      rw [this] at k1
      exact k1
  obtain ⟨N, gs', w', sl', t', a1, tm, X, m, R, wh, e1, e2, e3, e4, e5, e6⟩ := rest_beside (P := Tryz.prog) (gl := glN) (fs := fsB) (sl := sl) fragT (fun _ => rfl) (f := 3) (fn := Tryz.f3) (c := c3bb) (a := ⟨T, []⟩) (tm := T) (K := []) (Q := fun a w => a.tmps.getD 12 undef = .bool true) S I Tryz.func3 rest3_ok rest3_sees rfl hS hI hgw hVs hwp (fun a w τ d h => h)
    (fun l b h1 h2 => by
      rw [show Loc.blk l = some Wg from h1] at h2
      cases h2
      refine ⟨fun h => ?_, hWg⟩
      rcases h with h | ⟨ad, h3, h4⟩
      · exact hcW h.symm
      · exact (hva ad h3).2.2.1 h4.symm) hb
  refine ⟨N, gs', w', sl', t', tm, X, m, e1, ⟨e2.size, e2.bes, e2.heap, fun b h1 h2 => e2.kept b h1 fun h3 => ?_, e2.rest⟩, e3, ?_⟩
  · rcases h3.1 with h | h
    · exact h2 h
    · exact h3.2 h
  · have hlt : 12 < a1.tmps.size := Nat.lt_of_not_le fun h => by
      rw [Array.getD_eq_getD_getElem?, Array.getElem?_eq_none h] at e4
      cases e4
    have h1 : a1.tmps[12]? = some (.bool true) := by
      rw [Array.getElem?_eq_getElem hlt]
      rw [Array.getD_eq_getD_getElem?, Array.getElem?_eq_getElem hlt] at e4
      simpa using e4
    have hlt2 : 12 < tm.size := by rw [← e5.1]; exact hlt
    have := e5.2 12 _ _ h1 (Array.getElem?_eq_getElem hlt2)
    rw [Array.getD_eq_getD_getElem?, Array.getElem?_eq_getElem hlt2]
    cases h9 : tm[12] with
    | bool b => rw [h9] at this; cases this; rfl
    | _ => rw [h9] at this; cases this
theorem stage10 {Wg : Nat} {tm : Array Value} {X : List Item} {m : FrameMode} {Post : Value → World → Prop} (hm : m = .run ∧ X = [] ∨ m = .returning) (h12 : tm.getD 12 undef = .bool true) (hpost : ∀ d, Post (.bool true) (w.at d))
    (hb : Bes Tryz.prog (shut Wg) gs (gor { fram 3 tm X ([], .normal) with mode := m } []) w t) :
    ∃ N last o w' t', runNT Tryz.prog (N + 1) (crowd gs w sl) t = (.ended o w', t') ∧ runN Tryz.prog N (crowd gs w sl) = .next last ∧ step Tryz.prog last = .ended o w' ∧ Go.Conc.Good Tryz.prog Post last o w' t' := by
  obtain ⟨q, hL⟩ := hb.old
  have fin : ∀ (X : List Item) d, Goes Tryz.prog true Go.Conc.AtRel (DE (fun _ => False)) (AtEnd Tryz.prog (shut Wg) w.heap.size Post) 0 (gor { fram 3 tm X ([], .normal) with mode := .returning } []) (w.at d) := fun X d => Goes.stop fun w1 hw1 => by
    obtain ⟨d2, rfl⟩ := hw1
    refine ⟨rfl, .bool true, #[], ?_, by simp, hpost d2⟩
    rw [Array.getD_eq_getD_getElem?] at h12
    simp [gor, stepG, unwind, doReturn, results, Tryz.func3, Tryz.results3, seen, GStep.after, h12]
  refine beside_ends (P := Tryz.prog) (Shun := shut Wg) (B := w.heap.size) (D := DE (fun _ => False)) (n := 1) (fun w w' es h e he => (h e he).elim) hb.at0 hL hb.past ?_
  rcases hm with ⟨rfl, rfl⟩ | rfl
  · refine Goes.step rfl fun w1 hw1 => ?_
    obtain ⟨d, rfl⟩ := hw1
    have := stepG_end (P := Tryz.prog) (main := true) (b := base 3) (a := ⟨tm, []⟩) (cs := []) (w := w.at d)
    rw [show gor { fram 3 tm [] ([], .normal) with mode := .run } [] = G ((base 3).at ⟨tm, []⟩ []) [] from rfl, this]
    simp only [goes_go]
    exact ⟨fun e he => by simp at he, fin [] d⟩
  · exact Goes.mono (fin X w.drawn) (by omega)
end
end Pool
end Go.Proofs.YtdkpbobglogmoaaGreat
namespace Go.Proofs.YtdkpbobglogmoaaGreat
open Go Go.Conc Go.RowKit Go.Conc.Lib
open Go.ConcX.Gen (at_at)
namespace Pool
open Ren (Loc.blk SaidAll Bes Ran VR VsR WR Slf gor call_beside rest_beside MayO GhostO fram)
theorem packFr_finish (T : Array Value) (u : Value) : (packFr T).finish u = (base 4).at ⟨T.setIfInBounds 10 u, []⟩ [.inRegion oc4ba [3, 4, 5, 6, 7], .code c4bb] := by
  unfold packFr
  rw [Frame.finish_at]
  rfl
theorem protFr_finish (T : Array Value) (u : Value) : (protFr T).finish u = (base 4).at ⟨T.setIfInBounds 21 u, []⟩ [.inRegion oc4bbba [2, 3, 4, 5, 6], .code c4bbbb] := by
  unfold protFr
  rw [Frame.finish_at]
  rfl
theorem arg_late {l : Array Value} {m : Nat} (i : Nat) (h : l.size ≤ i) : (l ++ Array.replicate m undef).getD i undef = undef := by
  rw [Array.getD_eq_getD_getElem?, Array.getElem?_append_right h, Array.getElem?_replicate]
  split <;> rfl
theorem end_then {P : Program} {Post : Value → World → Prop} {N : Nat} {m m1 : Machine} {t1 : Trace} (h : runNT P N m #[] = (.next m1, t1))
    (k : ∃ K last o w' t', runNT P (K + 1) m1 t1 = (.ended o w', t') ∧ runN P K m1 = .next last ∧ step P last = .ended o w' ∧ Go.Conc.Good P Post last o w' t') :
    ∃ K last o w' t', runNT P (K + 1) m #[] = (.ended o w', t') ∧ runN P K m = .next last ∧ step P last = .ended o w' ∧ Go.Conc.Good P Post last o w' t' := by
  obtain ⟨K, last, o, w', t', h1, h2, h3, h4⟩ := k
  refine ⟨N + K, last, o, w', t', ?_, ?_, h3, h4⟩
  · rw [Nat.add_assoc, runNT_add, h]
    exact h1
  · rw [← runNT_fst _ _ _ #[], runNT_add, h]
    show (runNT P K m1 t1).1 = _
    rw [runNT_fst]
    exact h2
def Left (W : World) (v : Value) (w' : World) : Prop := v = .bool true ∧ W.heap.size ≤ w'.heap.size ∧ (∀ b, b < W.heap.size → w'.heap[b]? = W.heap[b]?) ∧ w'.os = W.os ∧ w'.output = W.output
theorem top_runs {W : World} {cap' : Nat} {nn at_ offset long x0 x1 x2 x3 x4 x5 : Int} {a' : Option Addr} {ps : List Int} (n0 : I64 nn) (a0 : I64 at_) (o0 : I64 offset) (l0 : I64 long) (b0 : I64 x0) (b1 : I64 x1) (b2 : I64 x2) (b3 : I64 x3) (pcap : ps.length ≤ cap') (pl : ps.length * 8 ≤ 140737488351232)
    (hpb : ∀ x ∈ ps, I64 x) (hp : ps.length = 0 ∨ ∃ b off, a' = some ⟨b, off, none⟩ ∧ b < W.heap.size ∧ ∀ i, i < ps.length → W.cell? ⟨b, off + i, none⟩ = some (.int .i64 (ps.getD i 0))) (hva : ∀ ad, a' = some ad → (∃ o, W.heap[ad.block]? = some o ∧ MayO o) ∧ ad.spot = none)
    (hM : ∃ n t, W.heap[gMax]? = some (.cells #[.int .i64 n] t (0, 0))) (hgw : Tryz.prog.globals.size ≤ W.heap.size) :
    ∃ M last o w' t', runNT Tryz.prog (M + 1) (solo (G (Frame.enter Tryz.prog 3 #[.int .i64 nn, .int .i64 at_, .slice a' ps.length cap', .int .i64 offset, .int .i64 long, .agg #[.int .i64 x0, .int .i64 x1, .int .i64 x2, .int .i64 x3, .int .i64 x4, .int .i64 x5]] .normal) []) W) #[] = (.ended o w', t') ∧
      runN Tryz.prog M (solo (G (Frame.enter Tryz.prog 3 #[.int .i64 nn, .int .i64 at_, .slice a' ps.length cap', .int .i64 offset, .int .i64 long, .agg #[.int .i64 x0, .int .i64 x1, .int .i64 x2, .int .i64 x3, .int .i64 x4, .int .i64 x5]] .normal) []) W) = .next last ∧ step Tryz.prog last = .ended o w' ∧ Go.Conc.Good Tryz.prog (Left W) last o w' t' := by
  have hfe : Frame.enter Tryz.prog 3 #[.int .i64 nn, .int .i64 at_, .slice a' ps.length cap', .int .i64 offset, .int .i64 long, .agg #[.int .i64 x0, .int .i64 x1, .int .i64 x2, .int .i64 x3, .int .i64 x4, .int .i64 x5]] .normal = (base 3).at ⟨#[.int .i64 nn, .int .i64 at_, .slice a' ps.length cap', .int .i64 offset, .int .i64 long, .agg #[.int .i64 x0, .int .i64 x1, .int .i64 x2, .int .i64 x3, .int .i64 x4, .int .i64 x5]] ++ Array.replicate 103 undef, []⟩ [.code c3] := by
    rw [enter_at (c := c3) _ Tryz.func3 (by rfl), Tryz.ntmps3]
    rfl
  rw [solo_eq_crowd, hfe]
  have hb0 : Bes Tryz.prog no #[G ((base 3).at ⟨#[.int .i64 nn, .int .i64 at_, .slice a' ps.length cap', .int .i64 offset, .int .i64 long, .agg #[.int .i64 x0, .int .i64 x1, .int .i64 x2, .int .i64 x3, .int .i64 x4, .int .i64 x5]] ++ Array.replicate 103 undef, []⟩ [.code c3]) []] (G ((base 3).at ⟨#[.int .i64 nn, .int .i64 at_, .slice a' ps.length cap', .int .i64 offset, .int .i64 long, .agg #[.int .i64 x0, .int .i64 x1, .int .i64 x2, .int .i64 x3, .int .i64 x4, .int .i64 x5]] ++ Array.replicate 103 undef, []⟩ [.code c3]) []) W #[] :=
    ⟨rfl, ⟨_, leavers_one _ _⟩, past_nil.mono (Nat.zero_le _)⟩
  obtain ⟨N1, gs1, sl1, t1, T3, T4, d1, r1, z1, s4, hT3, hb1⟩ := stage1 (a0 := nn) (a1 := at_) (a3 := offset) (a4 := long) (x0 := x0) (x1 := x1) (x2 := x2) (x3 := x3) (x4 := x4) (x5 := x5) (vp := .slice a' ps.length cap') (sl := none) (by simp) (by simp [Array.getD_eq_getD_getElem?, Array.getElem?_append]) (by simp [Array.getD_eq_getD_getElem?, Array.getElem?_append]) (by simp [Array.getD_eq_getD_getElem?, Array.getElem?_append]) (by simp [Array.getD_eq_getD_getElem?, Array.getElem?_append]) (by simp [Array.getD_eq_getD_getElem?, Array.getElem?_append]) (by simp [Array.getD_eq_getD_getElem?, Array.getElem?_append])
    (fun i hi => arg_late i (by simp [late3] at hi; simp; omega)) hb0
  obtain ⟨w1, hw1⟩ : ∃ w1, w1 = (after W [.cells #[.int .i64 x0, .int .i64 x1, .int .i64 x2, .int .i64 x3, .int .i64 x4, .int .i64 x5] 24, .cells #[.int .u8 5] 5]).at d1 := ⟨_, rfl⟩
  rw [← hw1] at r1 hb1
  have e1 : w1.heap.size = W.heap.size + 2 := by rw [hw1]; exact after_size
  have k1 : ∀ b, b < W.heap.size → w1.heap[b]? = W.heap[b]? := fun b hb => by rw [hw1]; exact after_old hb
  have c1 : w1.heap[W.heap.size]? = some (.cells #[.int .i64 x0, .int .i64 x1, .int .i64 x2, .int .i64 x3, .int .i64 x4, .int .i64 x5] 24) := by rw [hw1]; exact after_new0
  have d1' : w1.heap[W.heap.size + 1]? = some (.cells #[.int .u8 5] 5) := by rw [hw1]; exact after_new
  have o1 : w1.os = W.os ∧ w1.output = W.output := by rw [hw1]; exact ⟨rfl, rfl⟩
  clear hw1
  obtain ⟨N2, gs2, w2, sl2, t2, pb, fr, r2, ran2, hpg⟩ := stage2 (sl := sl1) d1' (by omega) hb1
  rw [packFr_finish] at ran2
  have hpl : pb < w2.heap.size := (Array.getElem?_eq_some_iff.1 hpg).1
  have hML : gMax < W.heap.size := by obtain ⟨n, t, h⟩ := hM; exact (Array.getElem?_eq_some_iff.1 h).1
  have e2 : W.heap.size + 2 ≤ w2.heap.size := by rw [← e1]; exact ran2.heap
  have k2 : ∀ b, b ≤ W.heap.size → w2.heap[b]? = w1.heap[b]? := fun b hb => ran2.kept b (by omega) (by show ¬ b = _; omega)
  have hM2 : ∃ n t, w2.heap[gMax]? = some (.cells #[.int .i64 n] t (0, 0)) := by
    obtain ⟨n, t, h⟩ := hM
    exact ⟨n, t, (k2 _ (by omega)).trans ((k1 _ hML).trans h)⟩
  obtain ⟨N3, gs3, sl3, t3, d3, T4b, T11, g3, r3, z3, hb3, hsp, hfr, s4b, q1, q2, hsd⟩ := stage3 (sl := sl2) (pb := pb) (by simpa using s4) (getD_same (by omega)) ran2.bes
  obtain ⟨N4, gs4, w4, sl4, t4, T, z, r4, hb4, sT, t7, hmb, e4, k4, o4⟩ := stage4 (sl := sl3) (T4 := T4) hpg hM2 (by omega) ran2.bes.past hsd (by rw [z3, ran2.size, z1]; rfl) hb3 hsp hfr
  obtain ⟨N5, gs5, w5, sl5, t5, T5, fb, cf, r5, z5, hb5, hP⟩ := stage5 (sl := sl4) sT t7 hmb (by omega) (by omega) s4b q1 q2 hb4
  have hpg5 : w5.heap[pb]? = some (.cells (pageY.map (Value.int .u8)).toArray 5 fr) := (hP.kept pb (by omega)).trans ((k4 pb hpl).trans hpg)
  obtain ⟨N6, gs6, w6, sl6, t6, kb, ck, r6, ran6⟩ := stage7 (sl := sl5) (Wg := w2.heap.size + 6) hpg5 (by have := hP.heap; omega) (by omega) (by have := hP.heap; omega) hb5
  rw [protFr_finish] at ran6
  have k6 : ∀ b, b < w5.heap.size → w6.heap[b]? = w5.heap[b]? := fun b hb => ran6.kept b hb id
  have hfl : fb < w5.heap.size := cell_lt hP.found
  have hf6 : w6.cell? ⟨fb, 0, none⟩ = some (.int .i64 1) := (World.cell?_of_block (k6 fb hfl)).trans hP.found
  obtain ⟨N7, gs7, sl7, t7', d7, T7, r7, z7, hb7, hT7, t13, t23⟩ := stage8 (sl := sl6) (Wg := w2.heap.size + 6) (by simpa using hP.size) (by rw [getD_ne (by decide)]; exact hP.t2) (by rw [getD_ne (by decide)]; exact hP.t3) (by rw [getD_ne (by decide)]; exact hP.t4) (getD_same (by rw [hP.size]; decide)) hT3 hf6 (by have := hP.far; omega) ran6.bes
  have e6 : w2.heap.size + 7 ≤ w6.heap.size := by have := hP.heap; have := ran6.heap; omega
  have k7 : ∀ b, b ≤ W.heap.size → (w6.at d7).heap[b]? = w1.heap[b]? := fun b hb => by
    have h4 := hP.heap
    exact (k6 b (by omega)).trans ((hP.kept b (by omega)).trans ((k4 b (by omega)).trans (k2 b hb)))
  have k8 : ∀ b, b < W.heap.size → (w6.at d7).heap[b]? = W.heap[b]? := fun b hb => (k7 b (by omega)).trans (k1 b hb)
  have o7 : w6.os = W.os ∧ w6.output = W.output := ⟨ran6.rest.1.trans (hP.rest.1.trans (o4.1.trans (ran2.rest.1.trans o1.1))), ran6.rest.2.trans (hP.rest.2.trans (o4.2.trans (ran2.rest.2.trans o1.2)))⟩
  obtain ⟨N8, gs8, w8, sl8, t8, tm, X, m, r8, ran8, hm, h12⟩ := stage9 (sl := sl7) (Wg := w2.heap.size + 6) (w := w6.at d7) n0 a0 o0 l0 b0 b1 b2 b3 pcap pl hpb
    (hp.imp id fun ⟨b, off, h1, h2, h3⟩ => ⟨b, off, h1, by omega, by show b < w6.heap.size; omega, fun i hi => (show (w6.at d7).cell? ⟨b, off + i, none⟩ = W.cell? ⟨b, off + i, none⟩ from World.cell?_of_block (k8 b h2)).trans (h3 i hi)⟩)
    (fun ad h => by
      obtain ⟨⟨o, h1, h2⟩, h3⟩ := hva ad h
      have hl := (Array.getElem?_eq_some_iff.1 h1).1
      exact ⟨⟨o, (k8 _ hl).trans h1, h2⟩, by omega, by omega, h3⟩)
    ((k7 _ (Nat.le_refl _)).trans c1) (by omega) (by show _ < w6.heap.size; omega) (by show _ ≤ w6.heap.size; omega) hT7 t13 t23 hb7
  have key := stage10 (sl := sl8) (Post := Left W) hm h12 (fun d => ⟨rfl, by have := ran8.heap; have h2 : (w6.at d7).heap.size = w6.heap.size := rfl; show W.heap.size ≤ w8.heap.size; omega, fun b hb => (ran8.kept b (by show b < w6.heap.size; omega) (by show ¬ b = _; omega)).trans (k8 b hb), ran8.rest.1.trans o7.1, ran8.rest.2.trans o7.2⟩) ran8.bes
  exact end_then (run_then (run_then (run_then (run_then (run_then (run_then (run_then r1 r2) r3) r4) r5) r6) r7) r8) key
end Pool
end Go.Proofs.YtdkpbobglogmoaaGreat
namespace Go.Proofs.YtdkpbobglogmoaaGreat
open Go.ChangeShapes Go.WideShapes Go.ChangeAt Go.RowKit
theorem own : ownKnob Tryz.prog.godebug = none := by kernel_rfl
theorem laidOut : laidOutB Tryz.prog = true := by kernel_rfl
theorem row_of {k : IntKind} {sz : Nat} {H : Type} {enc : TypeId × Value → H} {W : World} {T e : TypeId} {a : Option Addr} {len cap : Nat} {d : DataW H} {p : List MemPlace}
    {ts : List TypeId} {ds : List (DataW H)} {j : Nat}
    (hT : Tryz.prog.underlying T = some (.slice e)) (he : Tryz.prog.underlying e = some (.int k)) (hc : Tryz.prog.cellsOf e = 1) (hb : Tryz.prog.bytesOf e = sz)
    (h : DataW.Trod enc Tryz.prog W 0 (fun _ => true) true T (.slice a len cap) d p)
    (hs : (DataW.weightsEach Tryz.prog ts ds).all (· ≤ reachBytes) = true) (hj : ts[j]? = some T) (hd : ds[j]? = some d) : ∃ zs, IsRow k sz W a len cap zs := by
  obtain ⟨fuel, hf⟩ := h
  rcases open_ints hT he hc hf with ⟨hcs, _⟩ | ⟨x, l, c, zs, hcs, hx1, hl, hm, hz, hx, hcell, hwz⟩
  · simp [Value.cells] at hcs
    obtain ⟨rfl, rfl, rfl⟩ := hcs
    exact ⟨[], .inl ⟨rfl, rfl, rfl, rfl⟩⟩
  · simp [Value.cells] at hcs
    obtain ⟨rfl, rfl, rfl⟩ := hcs
    simp only [Prod.mk.injEq] at hx
    obtain ⟨rfl, _⟩ := hx
    have hr := sized_slice hs hj hd hT
    rw [hb] at hr
    have hz' : zs.length = cap := by simpa using hz
    have e1 : len + (cap - len) = cap := by omega
    simp only [lits, List.length_map, List.length_take, List.length_drop, reachBytes, hz', Nat.min_eq_left hl, e1] at hr
    exact ⟨zs, .inr ⟨_, rfl, hl, hr, hm, hz', hcell, hwz⟩⟩
end Go.Proofs.YtdkpbobglogmoaaGreat
namespace Go.Proofs.YtdkpbobglogmoaaGreat
open Go.RowKit
def IsPairs (w : World) (a : Option Addr) (len : Nat) (z : Nat → Nat → Int) : Prop :=
  len = 0 ∨ ∃ b off, a = some ⟨b, off, none⟩ ∧ len * 16 ≤ 140737488351232 ∧ b < w.heap.size ∧ (∀ i q, i < len → q < 2 → w.cell? ⟨b, off + i * 2 + q, none⟩ = some (.int .i64 (z i q))) ∧
    ∀ i q, i < len → q < 2 → (Lit.int .i64 (z i q)).wf = true
end Go.Proofs.YtdkpbobglogmoaaGreat
namespace Go.Proofs.YtdkpbobglogmoaaGreat
open Go.ChangeShapes Go.WideShapes Go.Deep Go.RowKit Go.ChangeAt
theorem take_one {α : Type} {l : List α} {j : Nat} {v : α} (h : (l.drop j).take 1 = [v]) : l[j]? = some v := by
  have e : ((l.drop j).take 1)[0]? = some v := by rw [h]; rfl
  simpa using e
theorem field_int {H : Type} {enc : TypeId × Value → H} {P : Program} {w : World} {base : Nat} {spare : Nat → Bool} {held : Bool} {n : Nat} {cs : List Value} {xs : List (DataW H × List MemPlace)} {fs : Array Field}
    (hlen : xs.length = fs.size) (hg : ∀ (i : Nat) (f : Field), fs[i]? = some f → DataW.trod enc P w base spare held n f.type ((cs.drop f.offset).take (P.cellsOf f.type)) = xs[i]?)
    {i : Nat} {f : Field} {k : IntKind} (hf : fs[i]? = some f) (ht : P.underlying f.type = some (.int k)) (hc : P.cellsOf f.type = 1) : ∃ z : Int, cs[f.offset]? = some (.int k z) ∧ (Lit.int k z).wf = true := by
  have h := hg i f hf
  have hi : i < xs.length := by rw [hlen]; exact (Array.getElem?_eq_some_iff.1 hf).1
  rw [hc, List.getElem?_eq_getElem hi] at h
  obtain ⟨z, e, _, wz⟩ := DataW.trod_int ht h
  exact ⟨z, take_one e, wz⟩
end Go.Proofs.YtdkpbobglogmoaaGreat
namespace Go.Proofs.YtdkpbobglogmoaaGreat
open Go.ChangeShapes Go.WideShapes Go.Deep Go.RowKit Go.ChangeAt
theorem cmd_of {H : Type} {enc : TypeId × Value → H} {W : World} {base : Nat} {v : Value} {d : DataW H} {p : List MemPlace}
    (hv : Value.okWide Tryz.prog W .any base 24 v) (h : DataW.Trod enc Tryz.prog W 0 (fun _ => true) true 24 v d p) :
    ∃ x0 x1 x2 x3 x4 x5, v = cmdV x0 x1 x2 x3 x4 x5 ∧ I64 x0 ∧ I64 x1 ∧ I64 x2 ∧ I64 x3 ∧ I64 x4 ∧ I64 x5 := by
  obtain ⟨cs, rfl, hsz⟩ := okWide_struct Tryz.underlying24 hv
  obtain ⟨fuel, hf⟩ := h
  obtain ⟨xs, n, _, _, _, hlen, hg⟩ := DataW.trod_struct Tryz.underlying24 hf
  have hC : Tryz.prog.cellsOf 24 = 6 := by kernel_rfl
  have h1 : Tryz.prog.cellsOf 3 = 1 := by kernel_rfl
  rw [hC] at hsz
  obtain ⟨x0, e0, w0⟩ := field_int hlen hg (i := 0) rfl Tryz.underlying3 h1
  obtain ⟨x1, e1, w1⟩ := field_int hlen hg (i := 1) rfl Tryz.underlying3 h1
  obtain ⟨x2, e2, w2⟩ := field_int hlen hg (i := 2) rfl Tryz.underlying3 h1
  obtain ⟨x3, e3, w3⟩ := field_int hlen hg (i := 3) rfl Tryz.underlying3 h1
  obtain ⟨x4, e4, w4⟩ := field_int hlen hg (i := 4) rfl Tryz.underlying3 h1
  obtain ⟨x5, e5, w5⟩ := field_int hlen hg (i := 5) rfl Tryz.underlying3 h1
  simp [Value.cells] at e0 e1 e2 e3 e4 e5
  refine ⟨x0, x1, x2, x3, x4, x5, ?_, bounds_i64 w0, bounds_i64 w1, bounds_i64 w2, bounds_i64 w3, bounds_i64 w4, bounds_i64 w5⟩
  unfold cmdV
  congr 1
  apply Array.ext_getElem?
  intro i
  rcases (by omega : i = 0 ∨ i = 1 ∨ i = 2 ∨ i = 3 ∨ i = 4 ∨ i = 5 ∨ 6 ≤ i) with rfl | rfl | rfl | rfl | rfl | rfl | hi
  · simpa using e0
  · simpa using e1
  · simpa using e2
  · simpa using e3
  · simpa using e4
  · simpa using e5
  · rw [Array.getElem?_eq_none (by omega), Array.getElem?_eq_none (by simp; omega)]
end Go.Proofs.YtdkpbobglogmoaaGreat
