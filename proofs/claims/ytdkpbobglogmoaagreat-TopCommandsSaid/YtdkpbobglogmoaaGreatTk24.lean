/- Parts of the proof of TopCommandsProof: TopRun1 TopRun2 TopGo6 TopRun3. -/
import Derived.Test.YtdkpbobglogmoaaGreatTk15
import Derived.Test.YtdkpbobglogmoaaGreatTk21
import Derived.Test.YtdkpbobglogmoaaGreatTk22
import Derived.Test.YtdkpbobglogmoaaGreatTk23
set_option linter.unusedVariables false
set_option linter.unusedSimpArgs false
set_option maxRecDepth 100000
set_option maxHeartbeats 32000000
namespace Go.Proofs.YtdkpbobglogmoaaGreat
open Go Go.Conc Go.RowKit Go.Conc.Lib
open Go.ConcX.Gen (at_at)
namespace Pool
open Ren (Loc.blk SaidAll Bes Ran VR VsR WR Slf gor call_beside MayO GhostO)
theorem nm10 : (Tryz.f10.name == "runtime.NumGoroutine") = false := by kernel_rfl
theorem ghost_at {R : Ren.Rel} {ice : Prop} {wh w : World} {b i : Nat} {x o : Obj} (h1 : wh.heap[b]? = some x) (h2 : w.heap[b]? = some o) (h3 : GhostO R ice x o) {k : IntKind} {n : Int} (hc : w.cell? ⟨b, i, none⟩ = some (.int k n)) : wh.cell? ⟨b, i, none⟩ = some (.int k n) := by
  cases h3 with
  | cells e f hv hp hn =>
    have hc' := by simpa [World.cell?, h2] using hc
    have := hp i _ hc' (.int k n)
    simp [World.cell?, h1, this]
  | ice e f hv hp hi =>
    have hc' := by simpa [World.cell?, h2] using hc
    have := hp i _ hc' (.int k n)
    simp [World.cell?, h1, this]
structure Sl3 (a0 a1 a3 a4 : Int) (vp vc : Value) (cb : Nat) (T : Array Value) : Prop where
  size : T.size = 109
  t0 : T.getD 0 undef = .int .i64 a0
  t1 : T.getD 1 undef = .int .i64 a1
  t2 : T.getD 2 undef = vp
  t3 : T.getD 3 undef = .int .i64 a3
  t4 : T.getD 4 undef = .int .i64 a4
  t5 : T.getD 5 undef = vc
  t11 : T.getD 11 undef = .pointer (some ⟨cb, 0, none⟩)
  t12 : T.getD 12 undef = .bool false
  late : ∀ i, late3 i = true → T.getD i undef = undef
noncomputable def topFr (T : Array Value) : Frame := (base 3).at ⟨T, []⟩ [.inRegion oc3ba [0, 1], .code c3bb]
noncomputable def packFr (T : Array Value) : Frame := (base 4).at ⟨T, []⟩ [.inRegion oc4ba [2, 3, 4, 5, 6, 7], .code c4bb]
noncomputable def newFr (T : Array Value) : Frame := (base 4).at ⟨T, []⟩ [.inRegion oc4bba [2, 3, 4, 5, 6, 7], .code c4bbb]
def no (_ : Loc) : Prop := False
section
variable {gs : Array Goroutine} {w : World} {sl : Option (Nat × Nat)} {t : Trace}
theorem stage1 {T : Array Value} {a0 a1 a3 a4 x0 x1 x2 x3 x4 x5 : Int} {vp : Value} (sT : T.size = 109) (e0 : T.getD 0 undef = .int .i64 a0) (e1 : T.getD 1 undef = .int .i64 a1) (e2 : T.getD 2 undef = vp) (e3 : T.getD 3 undef = .int .i64 a3) (e4 : T.getD 4 undef = .int .i64 a4) (e5 : T.getD 5 undef = .agg #[.int .i64 x0, .int .i64 x1, .int .i64 x2, .int .i64 x3, .int .i64 x4, .int .i64 x5]) (hr : ∀ i, late3 i = true → T.getD i undef = undef)
    (hb : Bes Tryz.prog no gs (G ((base 3).at ⟨T, []⟩ [.code c3]) []) w t) :
    ∃ N gs' sl' t' T3 T4 d, runNT Tryz.prog N (crowd gs w sl) t = (.next (crowd gs' ((after w [.cells #[.int .i64 x0, .int .i64 x1, .int .i64 x2, .int .i64 x3, .int .i64 x4, .int .i64 x5] 24, .cells #[.int .u8 5] 5]).at d) sl'), t') ∧ gs'.size = gs.size ∧ T4.size = 51 ∧ Sl3 a0 a1 a3 a4 vp (.agg #[.int .i64 x0, .int .i64 x1, .int .i64 x2, .int .i64 x3, .int .i64 x4, .int .i64 x5]) w.heap.size T3 ∧
      Bes Tryz.prog no gs' (G (Frame.enter Tryz.prog 10 #[.int .i64 24, .agg #[.int .i64 1, .int .i64 1, .int .i64 1, .slice (some ⟨w.heap.size + 1, 0, none⟩) 1 1]] .normal) [packFr T4, topFr T3]) ((after w [.cells #[.int .i64 x0, .int .i64 x1, .int .i64 x2, .int .i64 x3, .int .i64 x4, .int .i64 x5] 24, .cells #[.int .u8 5] 5]).at d) t' := by
  obtain ⟨N, gs', sl', t', g', w', r1, r2, r3, r4, r5, ⟨d, T3, T4, rfl, rfl, r6, r7⟩, _⟩ := go_on (P := Tryz.prog) (Shun := no) (sl := sl) (B := w.heap.size + 2) (Ok := fun _ => False) (n := 61)
    (Stop := fun g' w' => ∃ d T3 T4, g' = G (Frame.enter Tryz.prog 10 #[.int .i64 24, .agg #[.int .i64 1, .int .i64 1, .int .i64 1, .slice (some ⟨w.heap.size + 1, 0, none⟩) 1 1]] .normal) [packFr T4, topFr T3] ∧ w' = (after w [.cells #[.int .i64 x0, .int .i64 x1, .int .i64 x2, .int .i64 x3, .int .i64 x4, .int .i64 x5] 24, .cells #[.int .u8 5] 5]).at d ∧ T4.size = 51 ∧ Sl3 a0 a1 a3 a4 vp (.agg #[.int .i64 x0, .int .i64 x1, .int .i64 x2, .int .i64 x3, .int .i64 x4, .int .i64 x5]) w.heap.size T3)
    (fun b h => h.elim) hb (by omega) (go1 (n := 1) sT e0 e1 e2 e3 e4 e5 hr fun d T3 T4 h1 h2 h3 h4 h5 h6 h7 h8 h9 h10 h11 h12 =>
      goes_enterF (f := 10) (vs := #[.int .i64 24, .agg #[.int .i64 1, .int .i64 1, .int .i64 1, .slice (some ⟨w.heap.size + 1, 0, none⟩) 1 1]]) (by rfl) (by rfl) (by k_ne) (by rfl) Tryz.func10 nm10 (by rfl) (by simp only [List.map_toArray, List.map_cons, List.map_nil, Act.eval, h12]) fun d2 => Goes.stop fun w1 hw1 => by
        obtain ⟨d3, rfl⟩ := hw1
        exact ⟨_, T3, T4, rfl, rfl, h2, ⟨h1, h3, h4, h5, h6, h7, h8, h9, h10, h11⟩⟩)
  exact ⟨N, gs', sl', t', T3, T4, d, r1, r2, r6, r7, ⟨r3, r4, r5.mono (by show _ ≤ (after w _).heap.size; rw [after_size]; exact Nat.le_refl _)⟩⟩
def pageY : List Int := packOf 24 1 1 1 [5]
theorem vr_args {R : Ren.Rel} {db : Nat} (h : R db db) : VsR R #[.int .i64 24, .agg #[.int .i64 1, .int .i64 1, .int .i64 1, .slice (some ⟨db, 0, none⟩) 1 1]] #[.int .i64 24, .agg #[.int .i64 1, .int .i64 1, .int .i64 1, .slice (some ⟨db, 0, none⟩) 1 1]] := by
  refine Ren.VsR.self_list (l := [.int .i64 24, .agg #[.int .i64 1, .int .i64 1, .int .i64 1, .slice (some ⟨db, 0, none⟩) 1 1]]) fun v hv => ?_
  simp only [List.mem_cons, List.not_mem_nil, or_false] at hv
  rcases hv with rfl | rfl
  · exact .int _ _
  · have := Ren.VsR.self_list (R := R) (l := [.int .i64 1, .int .i64 1, .int .i64 1, .slice (some ⟨db, 0, none⟩) 1 1]) fun v hv => by
      simp only [List.mem_cons, List.not_mem_nil, or_false] at hv
      rcases hv with rfl | rfl | rfl | rfl
      · exact .int _ _
      · exact .int _ _
      · exact .int _ _
      · exact .slice _ _ ⟨h, rfl, rfl⟩
    exact .agg this.1 this.2
theorem stage2 {db : Nat} {k : Frame} {K' : List Frame} (hdb : w.heap[db]? = some (.cells #[.int .u8 5] 5)) (hgw : Tryz.prog.globals.size ≤ w.heap.size)
    (hb : Bes Tryz.prog no gs (G (Frame.enter Tryz.prog 10 #[.int .i64 24, .agg #[.int .i64 1, .int .i64 1, .int .i64 1, .slice (some ⟨db, 0, none⟩) 1 1]] .normal) (k :: K')) w t) :
    ∃ N gs' w' sl' t' pb fr, runNT Tryz.prog N (crowd gs w sl) t = (.next (crowd gs' w' sl'), t') ∧ Ran Tryz.prog no (fun b => b = db) gs w gs' (G (k.finish (.tuple #[.slice (some ⟨pb, 0, none⟩) 24 24, .nilIface])) K') w' t' ∧
      w'.heap[pb]? = some (.cells (pageY.map (Value.int .u8)).toArray 5 fr) := by
  have hcall : ∀ wh : World, wh.heap.size = w.heap.size → (∀ b, b = db → ∃ x o, wh.heap[b]? = some x ∧ w.heap[b]? = some o ∧ GhostO (Slf fun b => b = db) False x o) → Calls Tryz.prog 10 #[.int .i64 24, .agg #[.int .i64 1, .int .i64 1, .int .i64 1, .slice (some ⟨db, 0, none⟩) 1 1]] wh fun e w' => ∃ v, e = .returned v ∧ ∃ g, v = .tuple #[.slice (some ⟨g, 0, none⟩) 24 24, .nilIface] ∧ w'.heap[g]? = some (.cells (pageY.map (Value.int .u8)).toArray 5 (0, 0)) := fun wh hsz hat => by
    obtain ⟨x, o, h1, h2, h3⟩ := hat db rfl
    rw [hdb] at h2
    cases h2
    have hc : wh.cell? ⟨db, 0, none⟩ = some (.int .u8 5) := ghost_at h1 hdb h3 (by simp [World.cell?, hdb])
    refine (frame_pack_ok 24 1 1 1 (some ⟨db, 0, none⟩) 1 [5] wh (by decide) (by decide) (by decide) (fun w' hbe => ?_)).mono ?_
    · refine .inr ⟨db, 0, rfl, fun i hi => ?_⟩
      have h0 : i = 0 := by simp at hi; omega
      subst h0
      rw [hbe.cell (p := ⟨db, 0, none⟩) (Array.getElem?_eq_some_iff.1 h1).1]
      exact hc
    · rintro e w' ⟨g, _, rfl, hB, _⟩
      exact ⟨_, rfl, g, rfl, hB⟩
  obtain ⟨N, gs', w', sl', t', v, u, R, wh, e1, e2, ⟨g, rfl, hg⟩, hv, hw⟩ := call_beside (P := Tryz.prog) (gl := glN) (fs := fsB) (sl := sl) fragT (fun _ => rfl) (f := 10) (fn := Tryz.f10) (Post := fun v wh => ∃ g, v = .tuple #[.slice (some ⟨g, 0, none⟩) 24 24, .nilIface] ∧ wh.heap[g]? = some (.cells (pageY.map (Value.int .u8)).toArray 5 (0, 0)))
    (fun b => b = db) (fun _ => False) (by kernel_rfl) Tryz.func10 (fun b hb => ⟨_, (congrArg (fun b => w.heap[b]?) (show b = db from hb)).trans hdb, _, _, _, rfl⟩) (fun b h => h.elim) hgw (vr_args ⟨rfl, rfl⟩) hcall (fun v w τ d h => h) (fun l b h => h.elim) hb
  obtain ⟨d, rfl, hd⟩ := vr_tuple hv (by simp)
  obtain ⟨x, y, rfl, hx, hy⟩ := vs_two hd
  obtain ⟨⟨pb, po, ps⟩, rfl, q1, q2, q3⟩ := vr_slice hx
  simp only at q1 q2 q3
  subst q2 q3
  obtain ⟨fr, hpb⟩ := made_ints hw q1 hg
  cases hy
  exact ⟨N, gs', w', sl', t', pb, fr, e1, ⟨e2.size, e2.bes, e2.heap, fun b h1 h2 => e2.kept b h1 fun h3 => h2 h3.1, e2.rest⟩, hpb⟩
end
end Pool
end Go.Proofs.YtdkpbobglogmoaaGreat
namespace Go.Proofs.YtdkpbobglogmoaaGreat
open Go Go.Conc Go.RowKit Go.Conc.Lib Go.ConcR.Gen Go.ConcN.Gen
open Go.ConcX.Gen (at_at)
open Go.ConcR (KK wgBlock WgAt stA smA rd wr mk DC0)
namespace Pool
open Ren (Loc.blk SaidAll Bes Ran VR VsR WR Slf gor call_beside MayO GhostO Rely)
theorem get_of {T : Array Value} {s i : Nat} {v : Value} (hs : T.size = s) (hi : i < s) (h : T.getD i undef = v) : T[i]? = some v := by
  rw [Array.getElem?_eq_getElem (by omega)]
  rw [Array.getD_eq_getD_getElem?, Array.getElem?_eq_getElem (by omega)] at h
  simpa using h
def poolL (s pb : Nat) : List Obj := [.cells #[.slice (some ⟨pb, 0, none⟩) 24 24] 33, .map #[] 0, .cells #[.slice (some ⟨s, 0, none⟩) 1 1] 50, .chan 2 #[] false 0 0 false, .cells #[.chan (some (s + 3))] 101, .cells #[.int .i64 0] 106, .cells #[.int .u64 0, .int .u32 0] 111]
section
variable {gs : Array Goroutine} {w : World} {sl : Option (Nat × Nat)} {t : Trace}
theorem stage3 {T : Array Value} {K : List Frame} {pb : Nat} (sT : T.size = 51) (e10 : T.getD 10 undef = .tuple #[.slice (some ⟨pb, 0, none⟩) 24 24, .nilIface])
    (hb : Bes Tryz.prog no gs (G ((base 4).at ⟨T, []⟩ [.inRegion oc4ba [3, 4, 5, 6, 7], .code c4bb]) K) w t) :
    ∃ N gs' sl' t' d T4 T11 g', runNT Tryz.prog N (crowd gs w sl) t = (.next (crowd gs' ((after w (poolL w.heap.size pb)).at d) sl'), t') ∧ gs'.size = gs.size ∧ Bes Tryz.prog no gs' g' ((after w (poolL w.heap.size pb)).at d) t' ∧
      AtSpawn (w.heap.size + 6) (w.heap.size + 5) (w.heap.size + 2) (w.heap.size + 4) 2 0 (lookAt T11 :: newFr T4 :: K) g' ∧ Fresh (w.heap.size + 3) (w.heap.size + 1) (T11.setIfInBounds 24 (.chan (some (w.heap.size + 3)))) ∧
      T4.size = 51 ∧ T4.getD 1 undef = .slice (some ⟨pb, 0, none⟩) 24 24 ∧ T4.getD 2 undef = .nilIface ∧ SaidAll (EvOk (fun b => b = w.heap.size + 4)) t t' := by
  obtain ⟨N, gs', sl', t', g', w', r1, r2, r3, r4, r5, ⟨d, T4, T11, rfl, r6, r7, r8, r9, r10⟩, r11⟩ := go_on (P := Tryz.prog) (Shun := no) (sl := sl) (B := w.heap.size + 7) (Ok := fun b => b = w.heap.size + 4) (n := 200)
    (Stop := fun g' w' => ∃ d T4 T11, w' = (after w (poolL w.heap.size pb)).at d ∧ AtSpawn (w.heap.size + 6) (w.heap.size + 5) (w.heap.size + 2) (w.heap.size + 4) 2 0 (lookAt T11 :: newFr T4 :: K) g' ∧ Fresh (w.heap.size + 3) (w.heap.size + 1) (T11.setIfInBounds 24 (.chan (some (w.heap.size + 3)))) ∧
      T4.size = 51 ∧ T4.getD 1 undef = .slice (some ⟨pb, 0, none⟩) 24 24 ∧ T4.getD 2 undef = .nilIface)
    (fun b h => ⟨by omega, fun l hl => hl.elim⟩) hb (by omega) (go3 (n := 0) (cp := 24) sT e10 (lets_ok _) rfl fun d T4 T11 T26 h1 h2 h3 h4 h5 h6 h7 h8 h9 h10 h11 h12 h13 => Goes.stop fun w1 hw1 => by
        obtain ⟨d3, rfl⟩ := hw1
        refine ⟨_, T4, T11, rfl, ⟨T26, ⟨h3, get_of h3 (by decide) h8, get_of h3 (by decide) h9, get_of h3 (by decide) h10, get_of h3 (by decide) h11, get_of h3 (by decide) h12, get_of h3 (by decide) h13⟩, rfl⟩, ⟨by simpa using h2, ?_, ?_, fun i hi hn => ?_⟩, h1, h4, h5⟩
        · rw [Array.getElem?_setIfInBounds_ne (by decide)]
          exact get_of h2 (by decide) h6
        · exact Array.getElem?_setIfInBounds_self_of_lt (by omega)
        · have hlt : i < 101 := by simp [shown] at hi; omega
          rw [Array.getElem?_setIfInBounds_ne (fun e => by subst e; exact absurd hi (by decide))]
          exact get_of h2 hlt (h7 i hi hn))
  exact ⟨N, gs', sl', t', d, T4, T11, g', r1, r2, ⟨r3, r4, r5.mono (by show _ ≤ (after w _).heap.size; rw [after_size]; exact Nat.le_refl _)⟩, r6, r7, r8, r9, r10, r11⟩
noncomputable def spotOf (s : Nat) : Spot := { aty := 106, Wg := s + 6, A := s + 5, C := s + 3, n := 2, N := 1, b := 1, bp := s + 2, bc := s + 4, pg := s, Cold := fun b => b < s ∨ b = s ∨ b = s + 2 ∨ b = s + 4, fr := fun _ => (1, 1, 1) }
theorem page_ok : Page 24 pageY 1 1 1 1 [5] := ⟨by decide +kernel, by decide +kernel, by decide +kernel, by decide, by decide +kernel, by decide +kernel, by decide +kernel, by decide +kernel, by decide +kernel, by decide +kernel, by decide +kernel, rfl⟩
theorem spot_fit {pb d : Nat} {fr : Nat × Nat} (hpb : w.heap[pb]? = some (.cells (pageY.map (Value.int .u8)).toArray 5 fr)) (hM : ∃ n t, w.heap[gMax]? = some (.cells #[.int .i64 n] t (0, 0))) (hgw : Tryz.prog.globals.size ≤ w.heap.size) :
    (spotOf w.heap.size).Fit ((after w (poolL w.heap.size pb)).at d) := by
  have hnew : ∀ j, ((after w (poolL w.heap.size pb)).at d).heap[w.heap.size + j]? = (poolL w.heap.size pb)[j]? := fun j => after_new
  have hold : ∀ b, b < w.heap.size → ((after w (poolL w.heap.size pb)).at d).heap[b]? = w.heap[b]? := fun b hb => after_old hb
  have hpl : pb < w.heap.size := (Array.getElem?_eq_some_iff.1 hpb).1
  have hsz : ((after w (poolL w.heap.size pb)).at d).heap.size = w.heap.size + 7 := after_size
  refine ⟨⟨?_, ?_⟩, .inr (.inr (.inl rfl)), .inr (.inl rfl), .inr (.inr (.inr rfl)), ?_, ⟨?_, ?_, ?_⟩, ?_, ?_, ⟨⟨0, 0, hnew 6⟩, ⟨0, hnew 5⟩, #[], false, 0, 0, hnew 3⟩, (by show (1 : Nat) ≤ 2; decide), (by show (2 : Nat) < 2147483647; decide), (by show (1 : Nat) + 2 < 4611686018427387904; decide)⟩
  · exact after_cell (W := w) (l := poolL w.heap.size pb) (j := 2) (i := 0) rfl rfl
  · exact after_cell (W := w) (l := poolL w.heap.size pb) (j := 4) (i := 0) rfl rfl
  · intro k hk
    have hk0 : k = 0 := by have : k < 1 := hk; omega
    subst hk0
    exact ⟨pb, 24, 24, pageY, 1, [5], after_cell (W := w) (l := poolL w.heap.size pb) (j := 0) (i := 0) rfl rfl, Nat.le_refl _, page_ok, .inl hpl, fr, (hold pb hpl).trans hpb⟩
  · obtain ⟨n, t, h⟩ := hM
    exact .inl (Array.getElem?_eq_some_iff.1 h).1
  · obtain ⟨n, t, h⟩ := hM
    exact ⟨n, t, (hold _ (Array.getElem?_eq_some_iff.1 h).1).trans h⟩
  · rw [hsz]; omega
  · intro b hb
    rw [hsz]
    have : b < w.heap.size ∨ b = w.heap.size ∨ b = w.heap.size + 2 ∨ b = w.heap.size + 4 := hb
    omega
  · intro b hb
    have : b < w.heap.size ∨ b = w.heap.size ∨ b = w.heap.size + 2 ∨ b = w.heap.size + 4 := hb
    show b ≠ w.heap.size + 6 ∧ b ≠ w.heap.size + 5 ∧ b ≠ w.heap.size + 3
    omega
end
end Pool
end Go.Proofs.YtdkpbobglogmoaaGreat
namespace Go.Proofs.YtdkpbobglogmoaaGreat
open Go Go.Conc Go.RowKit Go.Conc.Lib
open Go.ConcX.Gen (at_at)
namespace Pool
section
variable {E : Event → Prop} {Ok : Nat → Prop} {Stop : Goroutine → World → Prop} {n : Nat} {W : World}
theorem go6 {T : Array Value} {K : List Frame} {pb cp fb cf : Nat} (sT : T.size = 51) (e1 : T.getD 1 undef = .slice (some ⟨pb, 0, none⟩) 24 cp) (e2 : T.getD 2 undef = .nilIface) (e16 : T.getD 16 undef = .tuple #[.slice (some ⟨fb, 0, none⟩) 1 cf, .nilIface])
    (hk : ∀ d T4, T4.size = 51 → T4.getD 2 undef = .nilIface → T4.getD 3 undef = .slice (some ⟨fb, 0, none⟩) 1 cf → T4.getD 4 undef = .nilIface → T4.getD 20 undef = .slice (some ⟨pb, 0, none⟩) 24 cp →
      Goes Tryz.prog true Go.Conc.AtRel (DE E) Stop n (G ((base 4).at ⟨T4, []⟩ [.inRegion oc4bbba [1, 2, 3, 4, 5, 6], .code c4bbbb]) K) (W.at d)) :
    Goes Tryz.prog true Go.Conc.AtRel (DE E) Stop (n + 40) (G ((base 4).at ⟨T, []⟩ [.inRegion oc4bba [3, 4, 5, 6, 7], .code c4bbb]) K) W := by
  have hk' := fun d => hk d
  rw [show W = (after W []).at W.drawn by rw [after_nil]; rfl]
  refine goes_mv (s := 13) (v := .tuple #[.slice (some ⟨fb, 0, none⟩) 1 cf, .nilIface]) (o := oc4bba[3]'(by decide)) (by rfl) (by rfl) (by k_ne) (.inl rfl) rfl e16 fun T2_ hT2_ d => ?_
  have sT2_ : T2_.size = 51 := by rw [hT2_]; simpa using sT
  have e1_2 : T2_.getD 1 undef = .slice (some ⟨pb, 0, none⟩) 24 cp := by rw [hT2_, getD_ne (by decide)]; exact e1
  have e2_2 : T2_.getD 2 undef = .nilIface := by rw [hT2_, getD_ne (by decide)]; exact e2
  have e13_2 : T2_.getD 13 undef = .tuple #[.slice (some ⟨fb, 0, none⟩) 1 cf, .nilIface] := by rw [hT2_]; exact getD_same (by rw [sT]; decide)
  have eo3 : (oc4bba[4]'(by decide)).op = Op.extract (Operand.tmp 13) 0 := by rfl
  refine goes_opr (v := .slice (some ⟨fb, 0, none⟩) 1 cf) (o := oc4bba[4]'(by decide)) (by rfl) (by rfl) (by k_ne) (fun d => ?_) (fun d e he => ?_) (fun d => ?_)
  · show (execOp (Act.eval ⟨T2_, []⟩) _).run _ _ = _
    unfold execOp
    simp [eo3, go_sem, Act.eval, ← Array.getD_eq_getD_getElem?, e13_2]
  · rw [show (execOp (Act.eval ⟨T2_, []⟩) (oc4bba[4]'(by decide))) = _ from by unfold execOp; rw [eo3]] at he
    simp [eo3, go_sem, Act.eval, ← Array.getD_eq_getD_getElem?, e13_2] at he
  obtain ⟨T4_, hT4_⟩ : ∃ T4_, T4_ = T2_.setIfInBounds 17 (.slice (some ⟨fb, 0, none⟩) 1 cf) := ⟨_, rfl⟩
  have sT4_ : T4_.size = 51 := by rw [hT4_]; simpa using sT2_
  have e1_4 : T4_.getD 1 undef = .slice (some ⟨pb, 0, none⟩) 24 cp := by rw [hT4_, getD_ne (by decide)]; exact e1_2
  have e2_4 : T4_.getD 2 undef = .nilIface := by rw [hT4_, getD_ne (by decide)]; exact e2_2
  have e13_4 : T4_.getD 13 undef = .tuple #[.slice (some ⟨fb, 0, none⟩) 1 cf, .nilIface] := by rw [hT4_, getD_ne (by decide)]; exact e13_2
  have e17_4 : T4_.getD 17 undef = .slice (some ⟨fb, 0, none⟩) 1 cf := by rw [hT4_]; exact getD_same (by rw [sT2_]; decide)
  show Goes _ _ _ _ _ (n + 38) (G ((base 4).at ⟨T2_.setIfInBounds 17 (.slice (some ⟨fb, 0, none⟩) 1 cf), []⟩ [.inRegion oc4bba [5, 6, 7], .code c4bbb]) _) _
  rw [← hT4_]
  have eo5 : (oc4bba[5]'(by decide)).op = Op.extract (Operand.tmp 13) 1 := by rfl
  refine goes_opr (v := .nilIface) (o := oc4bba[5]'(by decide)) (by rfl) (by rfl) (by k_ne) (fun d => ?_) (fun d e he => ?_) (fun d => ?_)
  · show (execOp (Act.eval ⟨T4_, []⟩) _).run _ _ = _
    unfold execOp
    simp [eo5, go_sem, Act.eval, ← Array.getD_eq_getD_getElem?, e13_4]
  · rw [show (execOp (Act.eval ⟨T4_, []⟩) (oc4bba[5]'(by decide))) = _ from by unfold execOp; rw [eo5]] at he
    simp [eo5, go_sem, Act.eval, ← Array.getD_eq_getD_getElem?, e13_4] at he
  obtain ⟨T6_, hT6_⟩ : ∃ T6_, T6_ = T4_.setIfInBounds 18 (.nilIface) := ⟨_, rfl⟩
  have sT6_ : T6_.size = 51 := by rw [hT6_]; simpa using sT4_
  have e1_6 : T6_.getD 1 undef = .slice (some ⟨pb, 0, none⟩) 24 cp := by rw [hT6_, getD_ne (by decide)]; exact e1_4
  have e2_6 : T6_.getD 2 undef = .nilIface := by rw [hT6_, getD_ne (by decide)]; exact e2_4
  have e17_6 : T6_.getD 17 undef = .slice (some ⟨fb, 0, none⟩) 1 cf := by rw [hT6_, getD_ne (by decide)]; exact e17_4
  have e18_6 : T6_.getD 18 undef = .nilIface := by rw [hT6_]; exact getD_same (by rw [sT4_]; decide)
  show Goes _ _ _ _ _ (n + 37) (G ((base 4).at ⟨T4_.setIfInBounds 18 (.nilIface), []⟩ [.inRegion oc4bba [6, 7], .code c4bbb]) _) _
  rw [← hT6_]
  refine goes_mv (s := 3) (v := .slice (some ⟨fb, 0, none⟩) 1 cf) (o := oc4bba[6]'(by decide)) (by rfl) (by rfl) (by k_ne) (.inr rfl) rfl e17_6 fun T8_ hT8_ d => ?_
  have sT8_ : T8_.size = 51 := by rw [hT8_]; simpa using sT6_
  have e1_8 : T8_.getD 1 undef = .slice (some ⟨pb, 0, none⟩) 24 cp := by rw [hT8_, getD_ne (by decide)]; exact e1_6
  have e2_8 : T8_.getD 2 undef = .nilIface := by rw [hT8_, getD_ne (by decide)]; exact e2_6
  have e18_8 : T8_.getD 18 undef = .nilIface := by rw [hT8_, getD_ne (by decide)]; exact e18_6
  have e3_8 : T8_.getD 3 undef = .slice (some ⟨fb, 0, none⟩) 1 cf := by rw [hT8_]; exact getD_same (by rw [sT6_]; decide)
  refine goes_mv (s := 4) (v := .nilIface) (o := oc4bba[7]'(by decide)) (by rfl) (by rfl) (by k_ne) (.inr rfl) rfl e18_8 fun T10_ hT10_ d => ?_
  have sT10_ : T10_.size = 51 := by rw [hT10_]; simpa using sT8_
  have e1_10 : T10_.getD 1 undef = .slice (some ⟨pb, 0, none⟩) 24 cp := by rw [hT10_, getD_ne (by decide)]; exact e1_8
  have e2_10 : T10_.getD 2 undef = .nilIface := by rw [hT10_, getD_ne (by decide)]; exact e2_8
  have e3_10 : T10_.getD 3 undef = .slice (some ⟨fb, 0, none⟩) 1 cf := by rw [hT10_, getD_ne (by decide)]; exact e3_8
  have e4_10 : T10_.getD 4 undef = .nilIface := by rw [hT10_]; exact getD_same (by rw [sT8_]; decide)
  refine goes_same rfl (fun w => stepG_region_end) (fun d => ?_)
  refine goes_same rfl (fun w => stepG_seq) (fun d => ?_)
  refine goes_same rfl (fun w => stepG_region) (fun d => ?_)
  show Goes _ _ _ _ _ (n + 32) (G ((base 4).at ⟨T10_, []⟩ [.inRegion oc4bbba [0, 1, 2, 3, 4, 5, 6], .code c4bbbb]) _) _
  refine goes_mv (s := 20) (v := .slice (some ⟨pb, 0, none⟩) 24 cp) (o := oc4bbba[0]'(by decide)) (by rfl) (by rfl) (by k_ne) (.inl rfl) rfl e1_10 fun T12_ hT12_ d => ?_
  have sT12_ : T12_.size = 51 := by rw [hT12_]; simpa using sT10_
  have e2_12 : T12_.getD 2 undef = .nilIface := by rw [hT12_, getD_ne (by decide)]; exact e2_10
  have e3_12 : T12_.getD 3 undef = .slice (some ⟨fb, 0, none⟩) 1 cf := by rw [hT12_, getD_ne (by decide)]; exact e3_10
  have e4_12 : T12_.getD 4 undef = .nilIface := by rw [hT12_, getD_ne (by decide)]; exact e4_10
  have e20_12 : T12_.getD 20 undef = .slice (some ⟨pb, 0, none⟩) 24 cp := by rw [hT12_]; exact getD_same (by rw [sT10_]; decide)
  have := hk d _ sT12_ e2_12 e3_12 e4_12 e20_12
  rw [show (after W []).at d = W.at d by rw [after_nil]]
  exact Goes.mono this (by omega)
end
end Pool
end Go.Proofs.YtdkpbobglogmoaaGreat
namespace Go.Proofs.YtdkpbobglogmoaaGreat
open Go Go.Conc Go.RowKit Go.Conc.Lib Go.ConcR.Gen Go.ConcN.Gen
open Go.ConcX.Gen (at_at)
open Go.ConcR (KK wgBlock WgAt stA smA rd wr mk DC0)
namespace Pool
open Ren (Loc.blk SaidAll Bes Ran VR VsR WR Slf gor call_beside MayO GhostO Rely)
theorem nm12 : (Tryz.f12.name == "runtime.NumGoroutine") = false := by kernel_rfl
def shut (Wg : Nat) (l : Loc) : Prop := Loc.blk l = some Wg
theorem shut_eq (Wg : Nat) : (fun l => no l ∨ Loc.blk l = some Wg) = shut Wg := by
  funext l
  simp [no, shut]
noncomputable def protFr (T : Array Value) : Frame := (base 4).at ⟨T, []⟩ [.inRegion oc4bbba [1, 2, 3, 4, 5, 6], .code c4bbbb]
structure Prot (pb : Nat) (w : World) (T : Array Value) (fb cf : Nat) (w' : World) : Prop where
  size : T.size = 51
  t2 : T.getD 2 undef = .nilIface
  t3 : T.getD 3 undef = .slice (some ⟨fb, 0, none⟩) 1 cf
  t4 : T.getD 4 undef = .nilIface
  heap : w.heap.size ≤ w'.heap.size
  kept : ∀ b, b < w.heap.size → w'.heap[b]? = w.heap[b]?
  rest : w'.os = w.os ∧ w'.output = w.output
  found : w'.cell? ⟨fb, 0, none⟩ = some (.int .i64 1)
  far : w.heap.size ≤ fb
section
variable {gs : Array Goroutine} {w : World} {sl : Option (Nat × Nat)} {t : Trace}
theorem stage4 {pb d : Nat} {fr : Nat × Nat} {T4 T11 : Array Value} {K : List Frame} {g : Goroutine} (hpb : w.heap[pb]? = some (.cells (pageY.map (Value.int .u8)).toArray 5 fr)) (hM : ∃ n t, w.heap[gMax]? = some (.cells #[.int .i64 n] t (0, 0))) (hgw : Tryz.prog.globals.size ≤ w.heap.size)
    {t0 : Trace} (hp0 : Past no w.heap.size t0) (hsd : SaidAll (EvOk (fun b => b = w.heap.size + 4)) t0 t) (hs : gs.size = 1)
    (hb : Bes Tryz.prog no gs g ((after w (poolL w.heap.size pb)).at d) t) (hg : AtSpawn (w.heap.size + 6) (w.heap.size + 5) (w.heap.size + 2) (w.heap.size + 4) 2 0 (lookAt T11 :: K) g)
    (hF : Fresh (w.heap.size + 3) (w.heap.size + 1) (T11.setIfInBounds 24 (.chan (some (w.heap.size + 3))))) :
    ∃ (N : Nat) (gs' : Array Goroutine) (w' : World) (sl' : Option (Nat × Nat)) (t' : Trace) (T : Array Value) (z : Value), runNT Tryz.prog N (crowd gs ((after w (poolL w.heap.size pb)).at d) sl) t = (.next (crowd gs' w' sl'), t') ∧ Bes Tryz.prog (shut (w.heap.size + 6)) gs' (recvAt (T.setIfInBounds 25 (Conc.recvd true z false)) K [1]) w' t' ∧ T.size = 101 ∧ T[7]? = some (.map (some (w.heap.size + 1))) ∧
      w'.heap[w.heap.size + 1]? = some (.map #[⟨.int .i64 1, .agg #[.int .i64 1, .int .i64 (0 : Nat), .int .i64 1, .int .i64 1], 0⟩] (0 + 1)) ∧ w.heap.size + 7 ≤ w'.heap.size ∧ (∀ b, b < w.heap.size → w'.heap[b]? = w.heap[b]?) ∧ w'.os = w.os ∧ w'.output = w.output := by
  have hfit := spot_fit (d := d) hpb hM hgw
  have hsz : ((after w (poolL w.heap.size pb)).at d).heap.size = w.heap.size + 7 := after_size
  have hnew : ∀ j, ((after w (poolL w.heap.size pb)).at d).heap[w.heap.size + j]? = (poolL w.heap.size pb)[j]? := fun j => after_new
  have hold : ∀ b, b < w.heap.size → ((after w (poolL w.heap.size pb)).at d).heap[b]? = w.heap[b]? := fun b hb => after_old hb
  have hO : ∀ b, b = w.heap.size + 1 → b < ((after w (poolL w.heap.size pb)).at d).heap.size ∧ ¬ (spotOf w.heap.size).Cold b ∧ ¬ (spotOf w.heap.size).bare.Sb b := by
    rintro b rfl
    refine ⟨by rw [hsz]; omega, fun h => ?_, fun h => ?_⟩
    · have : w.heap.size + 1 < w.heap.size ∨ w.heap.size + 1 = w.heap.size ∨ w.heap.size + 1 = w.heap.size + 2 ∨ w.heap.size + 1 = w.heap.size + 4 := h
      omega
    · have : w.heap.size + 1 = w.heap.size + 6 ∨ w.heap.size + 1 = w.heap.size + 5 ∨ w.heap.size + 1 = w.heap.size + 3 := h
      omega
  have hun : ∀ i a b, touchAt t i = some a → Loc.blk a.loc = some b → ¬ (spotOf w.heap.size).bare.Sb b := fun i a b h1 h2 h3 => by
    have h3 : b = w.heap.size + 6 ∨ b = w.heap.size + 5 ∨ b = w.heap.size + 3 := h3
    rcases said_touch hsd h1 h2 with ⟨j, hj⟩ | h
    · have := past_low hp0 hj h2
      omega
    · omega
  have hnr : NoRelease ⟨w.heap.size + 6, 0, none⟩ t := said_norel hsd (past_norel hp0 (by show w.heap.size ≤ w.heap.size + 6; omega))
  obtain ⟨N, gs', w', sl', t', T, z, O, q, r1, r2, r3, r4, r5, r6⟩ := Spot.Fit.runs (s := spotOf w.heap.size) (O₀ := fun b => b = w.heap.size + 1) (K := K) (T11 := T11) (mb := w.heap.size + 1) (clk := 0) hfit rfl rfl hF rfl hO (hnew 1) (sl := sl) hb hs hg (hnew 6) (hnew 5) (hnew 3) (fun l b h => h.elim) hun hnr
  have r5' : Past (fun l => no l ∨ Loc.blk l = some (w.heap.size + 6)) w'.heap.size t' := r5
  rw [shut_eq] at r5'
  refine ⟨N, gs', w', sl', t', T, z, r1, ⟨r2, ⟨q, r4⟩, r5'⟩, r3.used.size, r3.used.t7, r3.map, by have := r3.rel.size; rw [hsz] at this; exact this, fun b hb => (r3.rel.cold b (.inl hb)).trans (hold b hb), r3.rel.rest.1, r3.rel.rest.2⟩
theorem stage5 {mb Wg pb : Nat} {T T4 : Array Value} {z : Value} {K : List Frame} (hT : T.size = 101) (t7 : T[7]? = some (.map (some mb))) (hmb : w.heap[mb]? = some (.map #[⟨.int .i64 1, .agg #[.int .i64 1, .int .i64 (0 : Nat), .int .i64 1, .int .i64 1], 0⟩] (0 + 1))) (hne : mb ≠ Wg) (hWg : Wg < w.heap.size)
    (s4 : T4.size = 51) (e1 : T4.getD 1 undef = .slice (some ⟨pb, 0, none⟩) 24 24) (e2 : T4.getD 2 undef = .nilIface)
    (hb : Bes Tryz.prog (shut Wg) gs (recvAt (T.setIfInBounds 25 (Conc.recvd true z false)) (newFr T4 :: K) [1]) w t) :
    ∃ N gs' w' sl' t' T' fb cf, runNT Tryz.prog N (crowd gs w sl) t = (.next (crowd gs' w' sl'), t') ∧ gs'.size = gs.size ∧ Bes Tryz.prog (shut Wg) gs' (G (Frame.enter Tryz.prog 12 #[.slice (some ⟨pb, 0, none⟩) 24 24] .normal) (protFr T' :: K)) w' t' ∧ Prot pb w T' fb cf w' := by
  have hml := (Array.getElem?_eq_some_iff.1 hmb).1
  have hE := lets_ok (fun b => b < w.heap.size + 9 ∧ b ≠ Wg)
  obtain ⟨N, gs', sl', t', g', w', r1, r2, r3, r4, r5, ⟨T', fb, cf, rfl, r6, r7⟩, _⟩ := go_on (P := Tryz.prog) (Shun := shut Wg) (sl := sl) (B := w.heap.size + 9) (Ok := fun b => b < w.heap.size + 9 ∧ b ≠ Wg) (n := 741)
    (Stop := fun g' w' => ∃ T' fb cf, g' = G (Frame.enter Tryz.prog 12 #[.slice (some ⟨pb, 0, none⟩) 24 24] .normal) (protFr T' :: K) ∧ Prot pb w T' fb cf w' ∧ w'.heap.size = w.heap.size + 9)
    (fun b h => ⟨h.1, fun l hl e => h.2 (by rw [show Loc.blk l = some Wg from hl] at e; cases e; rfl)⟩) hb (by omega)
    (tail_goes (n := 141) (mb := mb) (st := 0) hT t7 hE hmb ⟨by omega, hne⟩ (fun j hj => ⟨by omega, by omega⟩) fun W2 T2 cap k1 k2 k3 k4 k5 k6 k7 k8 =>
      last_goes (n := 41) (b₀ := base 4) (a₀ := ⟨T4, []⟩) (ops := oc4bba) (i := 2) (rest := [3, 4, 5, 6, 7]) (k := [.code c4bbb]) (cs := K) k1 k2 k3 k4 hE ((k6 mb hml).trans hmb) k8 ⟨by omega, hne⟩ ⟨by omega, by omega⟩ (fun j hj => ⟨by omega, by omega⟩) fun d L cap2 l1 l2 => by
        have hcell : ((after W2 L).at d).cell? ⟨W2.heap.size + 1, 0, none⟩ = some (.int .i64 1) := after_cell (j := 1) (i := 0) l2 (by rw [Array.getElem?_append_left (by simp)]; rfl)
        show Goes Tryz.prog true Go.Conc.AtRel _ _ 41 (G ((base 4).at ⟨T4.setIfInBounds 16 (.tuple #[.slice (some ⟨W2.heap.size + 1, 0, none⟩) 1 cap2, .nilIface]), []⟩ [.inRegion oc4bba [3, 4, 5, 6, 7], .code c4bbb]) K) _
        refine go6 (n := 1) (pb := pb) (cp := 24) (fb := W2.heap.size + 1) (cf := cap2) (by simpa using s4) (by rw [getD_ne (by decide)]; exact e1) (by rw [getD_ne (by decide)]; exact e2) (getD_same (by omega)) fun d2 T5 h1 h2 h3 h4 h5 => ?_
        refine goes_enterF (f := 12) (vs := #[.slice (some ⟨pb, 0, none⟩) 24 24]) (by rfl) (by rfl) (by k_ne) (by rfl) Tryz.func12 nm12 (by rfl) (by simp only [List.map_toArray, List.map_cons, List.map_nil, Act.eval, h5]) fun d3 => Goes.stop fun w1 hw1 => ?_
        obtain ⟨d4, rfl⟩ := hw1
        have hsz : (((((after W2 L).at d).at d2).at d3).at d4).heap.size = w.heap.size + 9 := by
          show (after W2 L).heap.size = _
          rw [after_size, l1]
          have : W2.heap.size = w.heap.size + 7 := k5
          omega
        refine ⟨T5, W2.heap.size + 1, cap2, rfl, ⟨h1, h2, h3, h4, by rw [hsz]; omega, fun b hb => ?_, ⟨k7.1, k7.2.1⟩, hcell, by have : W2.heap.size = w.heap.size + 7 := k5; omega⟩, hsz⟩
        have : b < W2.heap.size := by have : W2.heap.size = w.heap.size + 7 := k5; omega
        exact (after_old this).trans (k6 b hb))
  exact ⟨N, gs', w', sl', t', T', fb, cf, r1, r2, ⟨r3, r4, r5.mono (by omega)⟩, r6⟩
end
end Pool
end Go.Proofs.YtdkpbobglogmoaaGreat
