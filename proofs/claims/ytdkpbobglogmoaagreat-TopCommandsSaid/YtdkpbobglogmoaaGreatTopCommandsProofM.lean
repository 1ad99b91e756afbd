/-
  TopCommands: the law returns true for every input, whatever the order in which the scan's workers run, and every argument reads behind the call as it read before. No condition.
-/
import Derived.Test.YtdkpbobglogmoaaGreatTk30
import Derived.Test.YtdkpbobglogmoaaGreatRows
import Derived.Conc.Holds
import Derived.ProofKit
import Derived.SizedLaws
namespace Go.Proofs.YtdkpbobglogmoaaGreat.topCommands
open Go.ChangeShapes Go.WideShapes Go.ChangeAt Go.RowKit
open Go.ChangeMaps (open_string shut_string)
open Go Go.Conc
set_option linter.unusedVariables false

section
variable {H : Type} {enc : TypeId × Value → H}
/-- one good run from every start of the right shape -/
theorem leaving_of_runs {a : Assume} {C : Checked} {os : Os} {f : FuncId} {fn : Func} {s : ChangeSpec} {conds : List PathCond} {apart fresh handsOn again : Bool}
    (own : ownKnob C.prog.godebug = none) (started : os.Started) (hfn : C.prog.funcs[f]? = some fn)
    (witness : ∃ (w : World) (tape : Tape) (i : Input), w.os = os ∧ (w.forCall tape i).Shaped C.prog ∧ i.vars = [] ∧ Input.okWide C.prog (w.forCall tape i) .any w.heap.size f i ∧
      s.pre6 enc C.prog fn conds apart (w.forCall tape i).memory i.args ∧ a.holds C.prog (lone (Frame.enter C.prog f i.args .normal) [] (w.forCall tape i)))
    (runs : ∀ (W : World) (base : Nat) (args : Array Value) (ds gs : List (DataW H)) (before : List MemPlace), W.ShapedOpen C.prog →
      (∀ (j : Nat) t v, fn.params[j]? = some t → args[j]? = some v → Value.okWide C.prog W .any base t v) →
      DataW.Whole enc C.prog fn.params.toList s.vars apart W args.toList ds gs before →
      (DataW.weightsEach C.prog (fn.params.toList ++ s.plain.varTypes C.prog) (ds ++ gs)).all (· ≤ reachBytes) = true →
      ∃ M last o w' t', runNT C.prog (M + 1) (solo (G (Frame.enter C.prog f args .normal) []) W) #[] = (.ended o w', t') ∧ runN C.prog M (solo (G (Frame.enter C.prog f args .normal) []) W) = .next last ∧
        step C.prog last = .ended o w' ∧ Conc.Good C.prog (fun v W' => s.post enc C.prog fn apart fresh handsOn again W args v W') last o w' t') :
    ReturnsInLeavingWide a C os f .any (s.pre6 enc C.prog fn conds apart) (s.post enc C.prog fn apart fresh handsOn again) := by
  refine returnsInLeavingWide_of_good own started witness fun w tape i _ hsh _ hok hpre hholds => ?_
  obtain ⟨_, _, _, fn', hfn', _, _, _, _, hval⟩ := hok
  obtain rfl : fn' = fn := Option.some.inj (hfn'.symm.trans hfn)
  obtain ⟨⟨ds, gs, before, hw, hc⟩, hz⟩ := hpre
  have hw' := DataW.Whole.of_heap (w' := w.forCall tape i) (by rfl) hw
  obtain ⟨M, last, o, w', t', h1, h2, h3, v, h4, h5, h6⟩ := runs (w.forCall tape i) w.heap.size i.args ds gs before hsh hval hw' (hz.weights hw)
  exact ⟨M, last, o, w', t', h1, h2, h3, v, h4, ChangeSpec.post_blind h5, h6⟩
end

set_option maxRecDepth 100000 in
theorem max_of {W : World} (h : W.ShapedOpen Tryz.prog) : ∃ n t, W.heap[Pool.gMax]? = some (.cells #[.int .i64 n] t (0, 0)) := by
  obtain ⟨cs, hh, hs, hr⟩ := h.1 Pool.gMax #[.int .i64 0] 3 (of_decide_eq_true (by kernel_rfl)) (by kernel_rfl)
  obtain ⟨ts, hts, _, hall⟩ := hr (by kernel_rfl)
  have hc : Tryz.prog.cellTypes Tryz.prog.depth 3 = some [3] := by kernel_rfl
  rw [hc] at hts
  cases hts
  have h1 : cs.size = 1 := hs
  obtain ⟨u, hu', hok⟩ := hall 0 cs[0] (by simp [h1])
  have : u = 3 := by simpa using hu'.symm
  subst this
  unfold Cell.ok at hok
  rw [Tryz.underlying3] at hok
  cases hv : cs[0] with
  | int k n =>
    rw [hv] at hok
    obtain ⟨rfl, _⟩ := hok
    refine ⟨n, 3, ?_⟩
    rw [hh]
    congr 2
    apply Array.ext (by simp [h1])
    intro i hi _
    have : i = 0 := by omega
    subst this
    exact hv
  | _ => rw [hv] at hok; simp at hok
theorem big_of {W : World} (h : W.ShapedOpen Tryz.prog) : Tryz.prog.globals.size ≤ W.heap.size := by
  obtain ⟨n, t, h⟩ := max_of h
  have h1 := (Array.getElem?_eq_some_iff.1 h).1
  have h2 : Tryz.prog.globals.size = 1 := by kernel_rfl
  omega

set_option maxRecDepth 100000 in
theorem lifted (os : Os) (started : os.Started) (H : Type) (enc : TypeId × Value → H) :
    ReturnsInLeavingWide {} Tryz.checked os 3 .any (Rows.topCommandsSpec.pre6 enc Tryz.prog Tryz.f3 Rows.topCommandsRow.domain false) (Rows.topCommandsSpec.post enc Tryz.prog Tryz.f3 false true false false) := by
  refine leaving_of_runs (C := Tryz.checked) own started Tryz.func3
    (ChangeSpec.witness6 (enc := enc) (C := Tryz.checked) false ⟨#[], #[.int .i64 0, .int .i64 0, .slice none 0 0, .int .i64 0, .int .i64 0, .agg #[.int .i64 0, .int .i64 0, .int .i64 0, .int .i64 0, .int .i64 0, .int .i64 0]], []⟩ 8 (by kernel_rfl) (by kernel_rfl) (by kernel_rfl) (by kernel_rfl)) ?_
  intro W base args ds gs before hsh hval0 hW hsz0
  have hsz : (DataW.weightsEach Tryz.prog (Tryz.f3.params.toList ++ Rows.topCommandsSpec.plain.varTypes Tryz.prog) (ds ++ gs)).all (· ≤ reachBytes) = true := hsz0
  have hval : ∀ (j : Nat) t v, Tryz.f3.params[j]? = some t → args[j]? = some v → Value.okWide Tryz.prog W .any base t v := hval0
  have hW' := hW
  obtain ⟨p, q, hA0, hV, rfl, hfz, hnd⟩ := hW
  have hA : DataW.TrodAll enc Tryz.prog W 0 (fun _ => true) true Tryz.f3.params.toList args.toList ds p := hA0
  rw [Tryz.params3] at hA hval hsz
  obtain ⟨v0, vs0, d0, ds0, p0, q0, hargs, rfl, rfl, h0, r0⟩ := trodAll_cons hA
  obtain ⟨v1, vs1, d1, ds1, p1, q1, rfl, rfl, rfl, h1, r1⟩ := trodAll_cons r0
  obtain ⟨v2, vs2, d2, ds2, p2, q2, rfl, rfl, rfl, h2, r2⟩ := trodAll_cons r1
  obtain ⟨v3, vs3, d3, ds3, p3, q3, rfl, rfl, rfl, h3, r3⟩ := trodAll_cons r2
  obtain ⟨v4, vs4, d4, ds4, p4, q4, rfl, rfl, rfl, h4, r4⟩ := trodAll_cons r3
  obtain ⟨v5, vs5, d5, ds5, p5, q5, rfl, rfl, rfl, h5, r5⟩ := trodAll_cons r4
  obtain ⟨rfl, rfl, rfl⟩ := trodAll_nil r5
  obtain rfl : args = #[v0, v1, v2, v3, v4, v5] := by cases args; simp_all
  obtain ⟨rfl, rfl⟩ := trodVars_none hV
  obtain ⟨a0, rfl, rfl, rfl, w0⟩ := open_int Tryz.underlying3 (hval 0 3 v0 rfl rfl) h0
  have b0 := bounds_i64 w0
  obtain ⟨a1, rfl, rfl, rfl, w1⟩ := open_int Tryz.underlying3 (hval 1 3 v1 rfl rfl) h1
  have b1 := bounds_i64 w1
  have k2 := h2
  have lt2 : ∀ x ∈ p2, x.block < W.heap.size := by obtain ⟨m, hm⟩ := k2; exact DataW.trod_lt m _ _ _ hm
  obtain ⟨a2, len2, cap2, rfl⟩ := okWide_slice Tryz.underlying22 (hval 2 22 v2 rfl rfl)
  have hv2 := hval 2 22 (.slice a2 len2 cap2) rfl rfl
  obtain ⟨z2, w2⟩ := row_of (k := .i64) Tryz.underlying22 Tryz.underlying3 (by kernel_rfl) (by kernel_rfl : Tryz.prog.bytesOf 3 = 8) h2 hsz (j := 2) rfl rfl
  obtain ⟨a3, rfl, rfl, rfl, w3⟩ := open_int Tryz.underlying3 (hval 3 3 v3 rfl rfl) h3
  have b3 := bounds_i64 w3
  obtain ⟨a4, rfl, rfl, rfl, w4⟩ := open_int Tryz.underlying3 (hval 4 3 v4 rfl rfl) h4
  have b4 := bounds_i64 w4
  have k5 := h5
  have lt5 : ∀ x ∈ p5, x.block < W.heap.size := by obtain ⟨m, hm⟩ := k5; exact DataW.trod_lt m _ _ _ hm
  obtain ⟨y0, y1, y2, y3, y4, y5, rfl, c0, c1, c2, c3, c4, c5⟩ := cmd_of (hval 5 24 v5 rfl rfl) h5
  have hva : ∀ ad, a2 = some ad → (∃ o, W.heap[ad.block]? = some o ∧ Ren.MayO o) ∧ ad.spot = none := fun ad e => by
    subst e
    unfold Value.okWide at hv2
    rw [Tryz.underlying22] at hv2
    unfold Cell.okWide at hv2
    rw [Tryz.underlying22] at hv2
    unfold Cell.ok at hv2
    rw [Tryz.underlying22] at hv2
    obtain ⟨_, _, _, hspot, row, cells, hsp, _⟩ := hv2
    refine ⟨?_, hspot⟩
    unfold World.shape? at hsp
    cases ho : W.heap[ad.block]? with
    | none => rw [ho] at hsp; cases hsp
    | some o =>
      cases o with
      | cells c e f => exact ⟨_, rfl, _, _, _, rfl⟩
      | _ => rw [ho] at hsp; cases hsp
  obtain ⟨ps, rfl, pl, pcap, pb, hp⟩ := w2.ints
  clear hA0 hval0 hsz hsz0 hval
  obtain ⟨M, last, o, w', t', g1, g2, g3, v, g4, ⟨rfl, l1, l2, l3, l4⟩, g6⟩ := Pool.top_runs (W := W) (nn := a0) (at_ := a1) (offset := a3) (long := a4) (x0 := y0) (x1 := y1) (x2 := y2) (x3 := y3) (x4 := y4) (x5 := y5) (a' := a2) (ps := ps) (cap' := cap2) (by unfold I64; omega) (by unfold I64; omega) (by unfold I64; omega) (by unfold I64; omega) c0 c1 c2 c3 pcap pl pb
    (hp.imp id fun ⟨b, off, e1, e2, e3⟩ => ⟨b, off, e1, e2, fun i hi => e3 W (Below.refl _ _) i hi⟩) hva (max_of hsh) (big_of hsh)
  refine ⟨M, last, o, w', t', g1, g2, g3, _, g4, ?_, g6⟩
  have bel : Below W.heap.size W { w' with tape := W.tape } := ⟨l3, rfl, l4, l1, l2⟩
  have hkb : ∀ may, W.keptBut w' may := fun may => ⟨(bel.frame may).1, (bel.frame may).2.1, (bel.frame may).2.2⟩
  refine ⟨_, _, _, [], _, [], hW', trodAll_mk1 (shut_bool Tryz.underlying4 _), DataW.TrodAll.of_heap (w := { w' with tape := W.tape }) (by rfl) (trodAll_cons_mk (shut_int Tryz.underlying3 w0) (trodAll_cons_mk (shut_int Tryz.underlying3 w1) (trodAll_cons_mk (Below.trod laidOut (by kernel_rfl) (of_decide_eq_true (by kernel_rfl)) k2 bel lt2) (trodAll_cons_mk (shut_int Tryz.underlying3 w3) (trodAll_cons_mk (shut_int Tryz.underlying3 w4) (trodAll_cons_mk (Below.trod laidOut (by kernel_rfl) (of_decide_eq_true (by kernel_rfl)) k5 bel lt5) trodAll_mk0)))))), rfl, hkb _, fun h => by cases h⟩

theorem over : Rows.topCommandsRow.holds Tryz.pinned (OpenSpec.ofChange Rows.topCommandsSpec) :=
  OpenClaim.holds_of_wide_leaving 3 Tryz.f3 rfl rfl rfl rfl rfl rfl rfl ⟨rfl, rfl, rfl, rfl, rfl⟩ rfl rfl rfl rfl rfl (by kernel_rfl) Tryz.func3 (by kernel_rfl)
    (of_decide_eq_true (by kernel_rfl)) (by unfold Func.isWrapper; first | (rw [if_pos (by decide +kernel)]; kernel_rfl) | (rw [if_neg (by decide +kernel)]; exact ⟨rfl, rfl⟩))
    (fun os started H enc _ => lifted os started H enc)

theorem proved : Rows.TopCommandsSaid := over
#print axioms proved
end Go.Proofs.YtdkpbobglogmoaaGreat.topCommands
