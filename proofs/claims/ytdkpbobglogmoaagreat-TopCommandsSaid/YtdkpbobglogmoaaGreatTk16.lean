/- Parts of the proof of TopCommandsProof: PoolOpen PoolSaw PoolAct PoolWk. -/
import Derived.Conc.Own3
import Derived.Test.YtdkpbobglogmoaaGreatTk7
import Derived.Test.YtdkpbobglogmoaaGreatTk11
import Derived.Test.YtdkpbobglogmoaaGreatTk14
import Derived.Test.YtdkpbobglogmoaaGreatTk15
set_option linter.unusedVariables false
set_option linter.unusedSimpArgs false
set_option maxRecDepth 100000
set_option maxHeartbeats 32000000
namespace Go.Proofs.YtdkpbobglogmoaaGreat
open Go Go.Conc Go.RowKit Go.Conc.Lib Go.ConcR.Gen Go.ConcN.Gen
open Go.ConcR (KK wgBlock WgAt stA smA rd wr mk DC0)
open Go.ConcN (sumTo WgLive)
open Ren (Slf SelfO ghostW VR VsR WR OR)
namespace Pool
open Ren (Loc.blk Rely Gt Gk Rk Terms Did EvO New With Since)
theorem Gt.enter {T : Terms} {Stop : Stp} {d : Nat} {O : Nat → Prop} {b : Frame} {a : Act} {k : List Item} {cs : List Frame} {w : World} {ops : Array Oper} {i : Nat} {rest : List Nat} {o : Oper} {f : FuncId} {args : Array Value}
    (ho : ops[i]? = some o) (hw : Region.wanted o (yielded ops a.tmps) = true) (hk : b.kind ≠ .early) (hr : ∀ w1, Rely T.Cold T.Liv O w w1 → (execOp a.eval o).run T.P w1 = .ok (.enter f args) w1)
    (he : ∀ w1, Rely T.Cold T.Liv O w w1 → listed T.P b.fn a o w1 = #[])
    (k' : Gt T Stop d O (G (Frame.enter T.P f args .normal) (b.at a (.inRegion ops (i :: rest) :: k) :: cs)) w) : Gt T Stop d O (G (b.at a (.inRegion ops (i :: rest) :: k)) cs) w :=
  Gt.idle rfl (fun w1 r => (stepG_enter ho hw hk (hr w1 r)).trans (by rw [he w1 r])) k'
def Cfg.Av (c : Cfg) (b : Nat) : Prop := c.Cold b ∨ c.Sb b
theorem Cfg.Liv.did {c : Cfg} {Cold O Say : Nat → Prop} {w w' : World} {es : Array Event} (h : c.Liv w) (hO : ∀ b, O b → ¬ c.Av b) (d : Did Cold O Say w w' es) : c.Liv w' := by
  obtain ⟨⟨st, sm, h1⟩, ⟨v, h2⟩, buf, cl, s, r, h3⟩ := h
  have k : ∀ b x, c.Sb b → w.heap[b]? = some x → w'.heap[b]? = some x := fun b x hb hx => (d.kept b (Array.getElem?_eq_some_iff.1 hx).1 fun ho => hO b ho (.inr hb)).trans hx
  exact ⟨⟨st, sm, k _ _ (.inl rfl) h1⟩, ⟨v, k _ _ (.inr (.inl rfl)) h2⟩, buf, cl, s, r, k _ _ (.inr (.inr rfl)) h3⟩
theorem Since.rely {Cold : Nat → Prop} {Liv : World → Prop} {w w1 : World} (h : Since Cold Liv w w1) : Rely Cold Liv None w w1 := ⟨h.size, fun _ h => h.elim, h.cold, h.rest, h.liv⟩
def gMax : Nat := 0
structure Lies (Cold : Nat → Prop) (w : World) (b : Nat) (ys : List Int) : Prop where
  cold : Cold b
  at_ : ∃ fr, w.heap[b]? = some (.cells (ys.map (Value.int .u8)).toArray 5 fr)
structure Maxed (Cold : Nat → Prop) (w : World) : Prop where
  cold : Cold gMax
  at_ : ∃ n t, w.heap[gMax]? = some (.cells #[.int .i64 n] t (0, 0))
  big : Tryz.prog.globals.size ≤ w.heap.size
theorem self_ints_at {S I : Nat → Prop} {w : World} {b : Nat} {k : IntKind} {l : List Int} {t : TypeId} {fr : Nat × Nat} (h : w.heap[b]? = some (.cells (l.map (Value.int k)).toArray t fr)) : SelfO S I w b :=
  ⟨⟨_, h, .cells _ Ren.self_ints (fun o ho => ho)⟩, fun _ => ⟨_, _, _, h⟩⟩
section
variable {R : Ren.Rel}
theorem vr_int {k : IntKind} {n : Int} {u : Value} (h : VR R (.int k n) u) : u = .int k n := by cases h; rfl
theorem vr_tuple {c : Array Value} {u : Value} (h : VR R (.tuple c) u) (hc : 0 < c.size) : ∃ d, u = .tuple d ∧ VsR R c d := by
  cases h with
  | junk _ => simp at hc
  | tuple a b => exact ⟨_, rfl, a, b⟩
theorem vr_agg {c : Array Value} {u : Value} (h : VR R (.agg c) u) : ∃ d, u = .agg d ∧ VsR R c d := by cases h with | agg a b => exact ⟨_, rfl, a, b⟩
theorem vr_slice {a : Addr} {l c : Nat} {u : Value} (h : VR R (.slice (some a) l c) u) : ∃ b, u = .slice (some b) l c ∧ Ren.AR R a b := by cases h with | slice _ _ x => exact ⟨_, rfl, x⟩
theorem vs_list {l : List Value} {d : Array Value} (h : VsR R l.toArray d) : ∃ m : List Value, d = m.toArray ∧ l.length = m.length ∧ ∀ (i : Nat) v u, l[i]? = some v → m[i]? = some u → VR R v u := by
  obtain ⟨m⟩ := d
  exact ⟨m, rfl, by simpa using h.1, fun i v u h1 h2 => h.2 i v u (by simpa using h1) (by simpa using h2)⟩
theorem vs_two {a b : Value} {d : Array Value} (h : VsR R #[a, b] d) : ∃ x y, d = #[x, y] ∧ VR R a x ∧ VR R b y := by
  obtain ⟨m, rfl, hl, hv⟩ := vs_list (l := [a, b]) h
  match m, hl with
  | [x, y], _ => exact ⟨x, y, rfl, hv 0 _ _ rfl rfl, hv 1 _ _ rfl rfl⟩
theorem vs_four {a b c e : Value} {d : Array Value} (h : VsR R #[a, b, c, e] d) : ∃ x y z u, d = #[x, y, z, u] ∧ VR R a x ∧ VR R b y ∧ VR R c z ∧ VR R e u := by
  obtain ⟨m, rfl, hl, hv⟩ := vs_list (l := [a, b, c, e]) h
  match m, hl with
  | [x, y, z, u], _ => exact ⟨x, y, z, u, rfl, hv 0 _ _ rfl rfl, hv 1 _ _ rfl rfl, hv 2 _ _ rfl rfl, hv 3 _ _ rfl rfl⟩
theorem vs_ints {k : IntKind} {l : List Int} {d : Array Value} (h : VsR R (l.map (Value.int k)).toArray d) : d = (l.map (Value.int k)).toArray := by
  obtain ⟨m, rfl, hl, hv⟩ := vs_list h
  congr 1
  apply List.ext_getElem?
  intro i
  rcases Nat.lt_or_ge i m.length with hi | hi
  · have h1 : i < (l.map (Value.int k)).length := by omega
    have := hv i _ _ (List.getElem?_eq_getElem h1) (List.getElem?_eq_getElem hi)
    rw [List.getElem_map] at this
    rw [List.getElem?_eq_getElem hi, List.getElem?_eq_getElem h1, vr_int this, List.getElem_map]
  · rw [List.getElem?_eq_none hi, List.getElem?_eq_none (by omega)]
theorem made_ints {Z : Ren.Env} {w w' : World} (h : WR Z R w w') {a b : Nat} (hab : R a b) {k : IntKind} {l : List Int} {t : TypeId} {fr : Nat × Nat} (ha : w.heap[a]? = some (.cells (l.map (Value.int k)).toArray t fr)) :
    ∃ fr', w'.heap[b]? = some (.cells (l.map (Value.int k)).toArray t fr') := by
  obtain ⟨o, p, h1, h2, h3⟩ := h.obj a b hab
  rw [ha] at h1
  cases h1
  cases h3 with
  | cells e hv hf => exact ⟨_, by rw [h2, vs_ints hv]⟩
end
section
variable {c : Cfg} {bp bc pg : Nat} {w₀ : World} {O : Nat → Prop}
theorem region3o (hP : c.P = Tryz.prog) {k : Nat} {T : Array Value} (hs : Slots c.Wg c.A bp bc T) (t4 : T[4]? = some (.int .i64 k)) {pb n cp : Nat} {ys : List Int} {kind lba seq : Int} {m : Nat} {data : List Int} (t17 : T[17]? = some (.slice (some ⟨pb, 0, none⟩) n cp))
    (hp : Page n ys kind lba seq m data) (hnc : n ≤ cp) (w : World) (hF : c.Liv w) (hl : Lies c.Cold w pb ys) (hm : Maxed c.Cold w) (hA : ∀ b, c.Av b → b < w.heap.size) {Stop : Stp}
    (hk : ∀ T' w' F g cap (zs : List Int) fr, Slots c.Wg c.A bp bc T' → T'[4]? = some (.int .i64 k) → T'[18]? = some (.tuple #[.agg #[.int .i64 kind, .int .i64 lba, .int .i64 seq, .slice (some ⟨g, 0, none⟩) m cap], .int .i64 2]) →
      (∀ b, F b → ¬ c.Av b) → (∀ b, F b → b < w'.heap.size) → F g → w'.heap[g]? = some (.cells (zs.map (Value.int .u8)).toArray 5 fr) → c.Liv w' → Rely c.Cold c.Liv None w w' → Gt c.Tw Stop 0 F (G (openAt c.Wg T' [5, 6, 7, 8, 9, 10]) [bot39]) w') :
    Gt c.Tw Stop 0 None (G (openAt c.Wg T [4, 5, 6, 7, 8, 9, 10]) [bot39]) w := by
  obtain ⟨P, ty, aty, Wg, A, C, nn, N, bb, Cold, Item, Lp, Mp, Fin, ChC, Anc⟩ := c
  simp only at hP
  subst hP
  have eop : (ops3[4]'(by decide)).op = .call { callee := .value (.func 42), args := #[.tmp 17], argTypes := #[33] } := by rfl
  have e17 : Act.eval ⟨T, [dd39 Wg]⟩ (.tmp 17) = .slice (some ⟨pb, 0, none⟩) n cp := by
    show T.getD 17 undef = _
    rw [Array.getD_eq_getD_getElem?, t17]; rfl
  have hn42 : ¬ Tryz.f42.name = "runtime.NumGoroutine" := beq_eq_false_iff_ne.1 (by kernel_rfl)
  have hb42 : ¬ Tryz.f42.body = none := fun h => by
    have : Tryz.f42.body.isSome = true := by kernel_rfl
    rw [h] at this
    cases this
  refine Gt.enter (T := Cfg.Tw ⟨Tryz.prog, ty, aty, Wg, A, C, nn, N, bb, Cold, Item, Lp, Mp, Fin, ChC, Anc⟩) (o := ops3[4]'(by decide)) (f := 42) (args := #[.slice (some ⟨pb, 0, none⟩) n cp]) (by rfl) (by rfl) (by decide) (fun w1 _ => ?_) (fun w1 _ => ?_) ?_
  · show Sem.run Tryz.prog _ _ = _
    unfold execOp
    simp only [eop]
    simp [go_sem, t17, callFunc, Tryz.func42, hn42, hb42]
  · show listed Tryz.prog _ _ _ _ = _
    rw [listed_none (by unfold execOp; simp only [eop]; simp [go_sem, t17, callFunc, Tryz.func42, hn42, hb42])]
  let I : Nat → Prop := fun b => b = pb ∨ b = gMax
  obtain ⟨frp, hlp⟩ := hl.at_
  have hpl : pb < w.heap.size := (Array.getElem?_eq_some_iff.1 hlp).1
  let Post : Value → World → Prop := fun v wh => ∃ g cap k, w.heap.size ≤ g ∧ v = .tuple #[.agg #[.int .i64 kind, .int .i64 lba, .int .i64 seq, .slice (some ⟨g, 0, none⟩) m cap], .int .i64 2] ∧ wh.heap[g]? = some (.cells ((data ++ List.replicate k 0).map (Value.int .u8)).toArray 5 (0, 0))
  refine Ren.gt_of_calls (I := I) (fs := fs) (gl := gl) (fn := Tryz.f42) (Av := Cfg.Av ⟨Tryz.prog, ty, aty, Wg, A, C, nn, N, bb, Cold, Item, Lp, Mp, Fin, ChC, Anc⟩)
    (Post := Post)
    (fun b hb => .inl hb) rfl (fun h => h) (fun Z => frag Z) (by simp) (by kernel_rfl) Tryz.func42 (fun O w w' es hO hd hl => Cfg.Liv.did hl hO hd) (fun v w τ d h => h) ?_ ?_ ?_ hm.big ?_ ?_ (fun b hb => hb.elim) hA ?_
  · rintro b (rfl | rfl)
    · exact self_ints_at hlp
    · obtain ⟨x, t, hx⟩ := hm.at_
      exact self_ints_at (l := [x]) hx
  · rintro b (rfl | rfl)
    · exact hl.cold
    · exact hm.cold
  · intro x hx
    exact .inr (by simpa [gl, gMax] using hx)
  · exact Ren.VsR.one (.slice _ _ ⟨⟨rfl, .inl rfl⟩, rfl, rfl⟩)
  · intro τ d
    have hgh := Ren.ghostW_ice (I := I) (w := w) (b := pb) (.inl rfl) hlp
    refine (frame_open_page pb n cp ys kind lba seq m data ((ghostW I w).re τ d) hp hnc (by show pb < (ghostW I w).heap.size; rw [Ren.ghostW_size]; exact hpl) (fun i hi => ?_)).mono ?_
    · unfold World.cell?
      have : ((ghostW I w).re τ d).heap[pb]? = _ := hgh
      simp only [this]
      have h2 : i < ys.length := by rw [hp.len]; exact hi
      simp [List.getD, h2]
    · rintro e w' ⟨g, cap, hgs, rfl, ⟨k, hk⟩, _⟩
      have hgs : (ghostW I w).heap.size ≤ g := hgs
      rw [Ren.ghostW_size] at hgs
      exact ⟨_, rfl, g, cap, k, hgs, rfl, hk⟩
  · rintro R1 O1 v u wh1 w1 kf K' ek ⟨g, cap, kk, hgs, rfl, hg⟩ hv hw hr hoo ho sn
    injection ek with q1 q2
    subst q1 q2
    obtain ⟨d, rfl, hd⟩ := vr_tuple hv (by simp)
    obtain ⟨x, y, rfl, hx, hy⟩ := vs_two hd
    obtain ⟨d2, rfl, hd2⟩ := vr_agg hx
    obtain ⟨a1, a2, a3, a4, rfl, b1, b2, b3, b4⟩ := vs_four hd2
    obtain rfl := vr_int hy
    obtain rfl := vr_int b1
    obtain rfl := vr_int b2
    obtain rfl := vr_int b3
    obtain ⟨⟨gb, go, gs⟩, rfl, r1, r2, r3⟩ := vr_slice b4
    simp only at r1 r2 r3
    subst r2 r3
    obtain ⟨fr, hgb⟩ := made_ints hw r1 hg
    have hF1 := sn.liv hF
    have hFg : O1 gb := by
      rcases hr _ _ r1 with ⟨hi, hc⟩ | h
      · exfalso
        rcases hi with rfl | rfl
        · omega
        · obtain ⟨x, t, hx⟩ := hm.at_
          have := (Array.getElem?_eq_some_iff.1 hx).1
          omega
      · exact h
    show Gt _ Stop 0 O1 (G (openAt Wg (T.setIfInBounds 18 (.tuple #[.agg #[.int .i64 kind, .int .i64 lba, .int .i64 seq, .slice (some ⟨gb, 0, none⟩) m cap], .int .i64 2])) [5, 6, 7, 8, 9, 10]) [bot39]) w1
    have hsz := hs.size
    exact hk _ w1 O1 gb cap _ fr ⟨by simpa using hsz, by rw [Array.getElem?_setIfInBounds_ne (by decide)]; exact hs.t0, by rw [Array.getElem?_setIfInBounds_ne (by decide)]; exact hs.t1, by rw [Array.getElem?_setIfInBounds_ne (by decide)]; exact hs.t2, by rw [Array.getElem?_setIfInBounds_ne (by decide)]; exact hs.t3⟩
      (by rw [Array.getElem?_setIfInBounds_ne (by decide)]; exact t4) (Array.getElem?_setIfInBounds_self_of_lt (by omega)) (fun b h => (ho b h).1) (fun b h => (ho b h).2) hFg hgb hF1 (Since.rely sn)
end
end Pool
end Go.Proofs.YtdkpbobglogmoaaGreat
namespace Go.Proofs.YtdkpbobglogmoaaGreat
open Go Go.Conc Go.RowKit Go.Conc.Lib Go.ConcR.Gen Go.ConcN.Gen
open Go.ConcR (KK wgBlock WgAt stA smA rd wr mk DC0)
open Go.ConcN (sumTo WgLive)
namespace Pool
open Ren (Loc.blk Rely Gt Gk Rk Terms Did EvO New With Since)
abbrev Says := Nat → Int × Int × Int
def Seen (fr : Says) (k : Nat) (v : Value) (F : Nat → Prop) (w : World) : Prop :=
  ∃ (g m cap : Nat) (zs : List Int) (t : TypeId) (f : Nat × Nat), v = .agg #[.int .i64 k, .int .i64 (fr k).1, .int .i64 (fr k).2.1, .int .i64 (fr k).2.2, .slice (some ⟨g, 0, none⟩) m cap, .int .i64 2] ∧ F g ∧ w.heap[g]? = some (.cells (zs.map (Value.int .u8)).toArray t f)
theorem Seen.rely {fr : Says} {k : Nat} {v : Value} {F : Nat → Prop} {w w1 : World} {Cold : Nat → Prop} {Liv : World → Prop} (h : Seen fr k v F w) (r : Rely Cold Liv F w w1) : Seen fr k v F w1 := by
  obtain ⟨g, m, cap, zs, t, f, h1, h2, h3⟩ := h
  exact ⟨g, m, cap, zs, t, f, h1, h2, (r.own g h2).trans h3⟩
def Pages (Cold : Nat → Prop) (fr : Says) (pg N : Nat) (w : World) : Prop :=
  ∀ k, k < N → ∃ (pb n cp : Nat) (ys : List Int) (m : Nat) (data : List Int), w.cell? ⟨pg, k, none⟩ = some (.slice (some ⟨pb, 0, none⟩) n cp) ∧ n ≤ cp ∧ Page n ys (fr k).1 (fr k).2.1 (fr k).2.2 m data ∧ Lies Cold w pb ys
theorem Lies.rely {Cold : Nat → Prop} {Liv : World → Prop} {O : Nat → Prop} {w w1 : World} {b : Nat} {ys : List Int} (h : Lies Cold w b ys) (r : Rely Cold Liv O w w1) : Lies Cold w1 b ys := ⟨h.cold, h.at_.imp fun fr e => (r.cold b h.cold).trans e⟩
theorem Maxed.rely {Cold : Nat → Prop} {Liv : World → Prop} {O : Nat → Prop} {w w1 : World} (h : Maxed Cold w) (r : Rely Cold Liv O w w1) : Maxed Cold w1 := by
  obtain ⟨h1, ⟨n, t, h2⟩, h3⟩ := h
  exact ⟨h1, ⟨n, t, (r.cold gMax h1).trans h2⟩, Nat.le_trans h3 r.size⟩
section
variable {c : Cfg} {bp bc pg : Nat} {w₀ : World}
theorem toSend (hP : c.P = Tryz.prog) {fr : Says} (hI : c.Item = Seen fr) (hB : Boxes bp pg c.N bc c.C w₀) (hbp : c.Cold bp) (hpg : c.Cold pg) (hbc : c.Cold bc) (hps : Pages c.Cold fr pg c.N w₀) (hm : Maxed c.Cold w₀) (hA : ∀ b, c.Av b → b < w₀.heap.size)
    (hlp : ∀ g w, AtBack c.Wg c.A bp bc g → c.Liv w → Rely c.Cold c.Liv None w₀ w → c.Lp g w)
    (T : Array Value) (k : Nat) (w : World) (hs : Slots c.Wg c.A bp bc T) (t4 : T[4]? = some (.int .i64 k)) (hk : k < c.N) (hF : c.Liv w) (hR : Rely c.Cold c.Liv None w₀ w) :
    Gt c.Tw (AtSend c k) 0 None (G (b39.at ⟨T, [dd39 c.Wg]⟩ [.code code34, .inBlock 1, .inLoop loop39, .inBlock 0]) [bot39]) w := by
  obtain ⟨pb, n, cp, ys, m, data, hpv, hncp, hpage, hlies⟩ := hps k hk
  refine region3a hP hB hbp (hA _ (.inl hbp)) hpg (hA _ (.inl hpg)) hk hpv hs t4 w hF hR ?_
  intro T1 w1 hs1 t41 t17 hF1 hR1
  have hA1 : ∀ b, c.Av b → b < w1.heap.size := fun b hb => Nat.lt_of_lt_of_le (hA b hb) hR1.size
  refine region3o hP hs1 t41 t17 hpage hncp w1 hF1 (hlies.rely hR1) (hm.rely hR1) hA1 ?_
  intro T2 w2 F g cap zs f hs2 t42 t18 hFa hFl hFg hg hF2 hR2
  have hR2' := hR1.trans hR2
  refine region3b hP hs2 t42 t18 w2 hF2 ?_ (fun b hb => Nat.lt_of_lt_of_le (hA1 b (.inl hb)) hR2.size) hFl
  intro T3 b5 w3 O' hs3 t43 t5 t19 t20 hz hF3 hR3 hOO hO5 hOs hb5
  have hR3' := hR2'.trans (relyN hR3)
  have hgb : g ≠ b5 := fun e => by have := hFl g hFg; omega
  have hav : ∀ b, c.Av b → b ≠ b5 := fun b hb e => by have := hA1 b hb; have := hR2.size; omega
  have hsb : b5 ≠ c.Wg ∧ b5 ≠ c.A ∧ b5 ≠ c.C := ⟨fun e => hav _ (.inr (.inl rfl)) e.symm, fun e => hav _ (.inr (.inr (.inl rfl))) e.symm, fun e => hav _ (.inr (.inr (.inr rfl))) e.symm⟩
  refine region3c (st := 2) hP hs3 t5 t19 hO5 hsb w3 hz ?_
  intro w4 hR4
  have hz4 := (hR4.own b5 hO5).trans hz
  have hg4 := (hR4.own g (hOO g hFg)).trans ((hR3.own g hFg).trans hg)
  have hF4 := hR4.liv hF3
  have hR4' := hR3'.trans (relyN hR4)
  obtain ⟨w5, hw5⟩ : ∃ w5, w5 = w4.setRow b5 #[.int .i64 (fr k).1, .int .i64 (fr k).2.1, .int .i64 (fr k).2.2, .slice (some ⟨g, 0, none⟩) m cap] := ⟨_, rfl⟩
  have hz5 : w5.heap[b5]? = some (.cells #[.int .i64 (fr k).1, .int .i64 (fr k).2.1, .int .i64 (fr k).2.2, .slice (some ⟨g, 0, none⟩) m cap] 46) := by rw [hw5]; exact setRow_heap w4 b5 _ _ _ _ hz4
  have hg5 : w5.heap[g]? = _ := (by rw [hw5]; exact setRow_other _ _ _ _ hgb : w5.heap[g]? = w4.heap[g]?).trans hg4
  have hF5 : c.Liv w5 := by rw [hw5]; exact Cfg.Liv.setRow hF4 hsb _
  have hR5 : Rely c.Cold c.Liv None w4 w5 := by
    rw [hw5]
    exact ⟨by simp, fun _ h => h.elim, fun b hb => setRow_other _ _ _ _ (hav b (.inl hb)), ⟨rfl, rfl⟩, fun h => Cfg.Liv.setRow h hsb _⟩
  have hR5' := hR4'.trans hR5
  rw [← hw5]
  clear hw5
  refine region3d hP hs3 t43 t5 t20 w5 hF5 ?_
  intro T6 w6 hs6 t46 t56 t66 hF6 hR6
  refine region4 hP hB hbc (hA _ (.inl hbc)) hs6 t46 t56 t66 hO5 w6 ((hR6.own b5 hO5).trans hz5) ?_ (hR5'.trans (relyN hR6))
  intro T7 hs7 t21 t25
  refine atSend hP hs7 t21 t25 hlp w6 hF6 (hR5'.trans (relyN hR6)) ?_
  intro w7 hR7
  rw [hI]
  exact ⟨g, m, cap, zs, _, f, rfl, hOO g hFg, (hR7.own g (hOO g hFg)).trans ((hR6.own g (hOO g hFg)).trans hg5)⟩
end
end Pool
end Go.Proofs.YtdkpbobglogmoaaGreat
namespace Go.Proofs.YtdkpbobglogmoaaGreat
open Go Go.Conc
open Go.ConcR (KK wgBlock WgAt stA smA rd wr mk)
open Go.ConcN (sumTo upd sumTo_upd upd_ne upd_same sumTo_congr le_sumTo)
namespace Pool
open Ren (Loc.blk Rely Gt Gk Rk Terms Did EvO New With)
variable {c : Cfg} {Shun : Loc → Prop}
theorem setCell_size (w : World) (a : Addr) (v : Value) : (w.setCell a v).heap.size = w.heap.size := by simp [World.setCell]
theorem setCell_ne (w : World) (a : Addr) (v : Value) {b : Nat} (h : b ≠ a.block) : (w.setCell a v).heap[b]? = w.heap[b]? := by
  unfold World.setCell
  simp only
  rw [Array.getElem?_modify, if_neg (fun e => h e.symm)]
theorem setCell_at {w : World} {b off : Nat} {v : Value} {cs : Array Value} {e : TypeId} {f : Nat × Nat} (h : w.heap[b]? = some (.cells cs e f)) : (w.setCell ⟨b, off, none⟩ v).heap[b]? = some (.cells (cs.setIfInBounds off v) e f) := by
  unfold World.setCell
  simp only
  rw [Array.getElem?_modify, if_pos rfl, h]
  rfl
theorem WgAt.st {ty : TypeId} {Wg : Nat} {w : World} {st sm st' : Int} (h : WgAt ty Wg w st sm) : WgAt ty Wg (w.setCell (stA Wg) (.int .u64 st')) st' sm := setCell_at (off := 0) h
theorem WgAt.sem {ty : TypeId} {Wg : Nat} {w : World} {st sm sm' : Int} (h : WgAt ty Wg w st sm) : WgAt ty Wg (w.setCell (smA Wg) (.int .u32 sm')) st sm' := setCell_at (off := 1) h
theorem Hea.ne {S : St} {w : World} (h : Hea c S w) : c.Wg ≠ c.A ∧ c.Wg ≠ c.C ∧ c.A ≠ c.C := by
  have h1 := h.wg
  have h2 := h.ct
  have h3 := h.ch
  unfold WgAt wgBlock at h1
  unfold CtAt at h2
  unfold ChAt at h3
  refine ⟨fun e => ?_, fun e => ?_, fun e => ?_⟩
  · rw [e, h2] at h1; simp at h1
  · rw [e, h3] at h1; simp at h1
  · rw [e, h3] at h2; simp at h2
theorem act {S S' : St} {gs : Array Goroutine} {w w' : World} {sl : Option (Nat × Nat)} {t : Trace} {i0 : Nat} {g g' : Goroutine} {s1 : Stage} {k1 : Rk} {own1 : Nat → Prop} {es : Array Event}
    (h : Inv c Shun S gs w t) (hg : gs[i0]? = some g) (e : stepG c.P (i0 == 0) g w = .go g' w' es) (hi : i0 = 0 ∨ kid c S i0)
    (sz : w'.heap.size = w.heap.size) (kb : ∀ b, ¬ c.Sb b → w'.heap[b]? = w.heap[b]?) (rest : w'.os = w.os ∧ w'.output = w.output)
    (e1 : S'.stg = nxt S.stg i0 s1 (wks c.P g g') S'.shut) (e2 : S'.rk = upd S.rk i0 k1) (e3 : S'.lay = { S.lay with own := upd S.lay.own i0 own1 }) (e4 : S'.j = S.j) (e5 : S'.cl = S.cl) (e6 : S'.s = S.s) (e7 : S'.r = S.r)
    (ho : ∀ b, own1 b → S.lay.own i0 b) (hea : Hea c S' w') (ari : Ari c S' gs.size) (lt : Lt (mu c S' gs.size) (mu c S gs.size)) (ok : Ok c s1 k1 (deafBehind (Deaf t i0) es) own1 g' w')
    (hp : ∀ i, i < gs.size → pC (S.stg i) = 1 → S'.shut = false)
    (hev : ∀ e ∈ es, (∀ x, (MemAct.ofEvent e).touch? = some x → ∃ b, Loc.blk x.loc = some b ∧ c.Sb b ∧ x.kind = .atomic) ∧ (∀ a, e.loc ≠ .mark (.release a)) ∧ (MemAct.ofEvent e).low w.heap.size)
    (hrel : ∀ i, i0 = c.b + i → i < S.j → out s1 = true → ∃ r, Rel c.Wg (t ++ MemOp.ofEvents i0 g.frame.fn g.frame.place es) i0 r)
    (hacq : i0 = c.b + c.n → S.cl = true → isCL s1 = true → ∃ q, Acq c.Wg (t ++ MemOp.ofEvents i0 g.frame.fn g.frame.place es) i0 q (wsOf c) ∧ (isQ s1 = true → ∃ p, Shut c.C (t ++ MemOp.ofEvents i0 g.frame.fn g.frame.place es) i0 q p))
    (hq : S.cl = true → isCL (S.stg (c.b + c.n)) = true → wsOf c i0 → ∀ e ∈ es, (MemAct.ofEvent e).touch? = none) :
    ∃ S' gs' w' ops, runT c.P (crowd gs w sl) i0 = (.next (crowd gs' w' sl), ops) ∧ Inv c Shun S' gs' w' (t ++ ops) ∧ Lt (mu c S' gs'.size) (mu c S gs.size) := by
  have hT2 := h.tra
  have kp : Kept (c := c) S i0 w w' := ⟨Nat.le_of_eq sz.symm, fun b _ _ hb => kb b hb, rest, fun _ => hea.liv⟩
  refine ⟨S', _, w', _, runT_crowd_go hg e, ⟨?_, ?_, hea, ?_⟩, ?_⟩
  · refine h.sits.go (S' := S') hT2 hg kp hea.ch hp e1 e2 (fun i hi => ?_) e4 e5 ?_
    · rw [e3]; exact upd_ne _ _ hi
    · rw [e3]
      show Ok c _ _ _ (upd S.lay.own i0 own1 i0) _ _
      rw [upd_same]
      exact ok
  · refine hT2.go (S' := S') (own1 := own1) (fun e => (h.ari.cs e).1) h.ari.b kp (.inr hi) e1 e3 e4 e5 e6 e7 (fun b hb => .inl (ho b hb)) (fun ev he => ⟨fun x hx => ?_, (hev ev he).2.1, by rw [sz]; exact (hev ev he).2.2⟩) hrel hacq hq
    obtain ⟨b, hb, hs, hk⟩ := (hev ev he).1 x hx
    exact ⟨b, hb, .inr (.inr (.inl ⟨hT2.sb ▸ hs, hk⟩))⟩
  · rw [show ((gs.map (woken c.P g g' w')).setIfInBounds i0 g').size = gs.size by simp]; exact ari
  · rw [show ((gs.map (woken c.P g g' w')).setIfInBounds i0 g').size = gs.size by simp]; exact lt
theorem lt_of_phi {S S' : St} {m i0 : Nat} {s s1 : Stage} {wk sh : Bool} (h : i0 < m) (hs : S.stg i0 = s) (e1 : S'.stg = nxt S.stg i0 s1 wk sh) (hp : ∀ i, i < m → isPk (S.stg i) = true → i ≠ i0 → sh = false)
    (hphi : 4 * (c.N - S'.nx) + S'.bf.length + wgt s1 + (if S'.cl then stale S'.v (S'.stg (c.b + c.n)) else 0) < 4 * (c.N - S.nx) + S.bf.length + wgt s + (if S.cl then stale S.v (S.stg (c.b + c.n)) else 0)) : Lt (mu c S' m) (mu c S m) := by
  refine Lt.phi ?_
  unfold Phi
  have := sum_wgt (stg := S.stg) s1 wk sh h hp
  rw [hs] at this
  rw [e1] at hphi ⊢
  omega
theorem stale_same {S S' : St} {i0 : Nat} {s1 : Stage} {wk sh : Bool} (e1 : S'.stg = nxt S.stg i0 s1 wk sh) (h : c.b + c.n ≠ i0) (v : Nat) : stale v (S'.stg (c.b + c.n)) = stale v (S.stg (c.b + c.n)) := by
  rw [e1, nxt_ne _ _ _ _ h, stale_wake]
theorem stale_le (v : Nat) (s : Stage) : stale v s ≤ 2 := by
  cases s <;> simp only [stale] <;> (try split) <;> omega
section
variable {S : St} {gs : Array Goroutine} {w : World} {sl : Option (Nat × Nat)} {t : Trace} {g : Goroutine}
theorem Inv.at (L : Laws c) (h : Inv c Shun S gs w t) (d : Nat) : Inv c Shun S gs (w.at d) t := by
  have k : ∀ i, Kept (c := c) S i w (w.at d) := fun i => Kept.at S i w d
  refine ⟨⟨fun i g hg => ?_, h.sits.above, h.sits.size⟩, ⟨h.tra.ap, h.tra.cold, h.tra.sb, h.tra.own, h.tra.fl, h.tra.coldLt, h.tra.sbLt, h.tra.pt, h.tra.rel, h.tra.acq⟩, ⟨h.hea.wg, h.hea.ct, h.hea.ch, fun i n v hi => L.item _ _ _ _ _ ((k 0).fly h.tra) (h.hea.items i n v hi), h.hea.len, h.hea.room⟩, h.ari⟩
  have ok := h.sits.sit i g hg
  have r : Rely c.Cold c.Liv (S.lay.own i) w (w.at d) := ⟨Nat.le_refl _, fun _ _ => rfl, fun _ _ => rfl, ⟨rfl, rfl⟩, id⟩
  have hk := h.pcs i (Array.getElem?_eq_some_iff.1 hg).1
  have := ok.other (w' := w.at d) r (show ChAt c (w.at d) (S.bf.map (·.2)).toArray S.shut S.s S.r from h.hea.ch) hk { g with frame := { g.frame with mode := .run, todo := [] } } g
  have e0 : wks c.P { g with frame := { g.frame with mode := .run, todo := [] } } g = false := rfl
  rw [e0, woken_eq, e0] at this
  exact this
theorem Inv.notCL (h : Inv c Shun S gs w t) {i0 : Nat} (hlt : i0 < gs.size) (hp : 1 ≤ vC (S.stg i0) + xC (S.stg i0) + yC (S.stg i0)) (hcl : S.cl = true) : isCL (S.stg (c.b + c.n)) = false := by
  cases hCL : isCL (S.stg (c.b + c.n)) with
  | false => rfl
  | true =>
    exfalso
    have hm := h.ari.mode
    have hck : cK (S.stg (c.b + c.n)) = 2 := by revert hCL; cases S.stg (c.b + c.n) <;> simp [isCL, cK]
    rw [hcl, hck] at hm
    unfold ModeP at hm
    simp at hm
    have hv := h.ari.v
    have b1 : vC (S.stg i0) ≤ sumTo gs.size fun i => vC (S.stg i) := le_sumTo (f := fun i => vC (S.stg i)) hlt
    have b2 : xC (S.stg i0) ≤ sumTo gs.size fun i => xC (S.stg i) := le_sumTo (f := fun i => xC (S.stg i)) hlt
    have b3 : yC (S.stg i0) ≤ sumTo gs.size fun i => yC (S.stg i) := le_sumTo (f := fun i => yC (S.stg i)) hlt
    omega
theorem actW {w' : World} {i : Nat} {s s1 : Stage} {k1 : Rk} {own1 : Nat → Prop} {g' : Goroutine} {es : Array Event} {nx v wtg sm : Nat} (h : Inv c Shun S gs w t) (hi : i < S.j) (hg : gs[c.b + i]? = some g) (hs : S.stg (c.b + i) = s) (e : stepG c.P false g w = .go g' w' es)
    (sz : w'.heap.size = w.heap.size) (kb : ∀ b, ¬ c.Sb b → w'.heap[b]? = w.heap[b]?) (rest : w'.os = w.os ∧ w'.output = w.output) (ho : ∀ b, own1 b → S.lay.own (c.b + i) b)
    (wg : WgAt c.ty c.Wg w' (v * KK + wtg) sm) (ct : CtAt c w' nx) (ch : w'.heap[c.C]? = w.heap[c.C]?) (L : Laws c)
    (ok : Ok c s1 k1 (deafBehind (Deaf t (c.b + i)) es) own1 g' w')
    (hev : ∀ e ∈ es, (∀ x, (MemAct.ofEvent e).touch? = some x → ∃ b, Loc.blk x.loc = some b ∧ c.Sb b ∧ x.kind = .atomic) ∧ (∀ a, e.loc ≠ .mark (.release a)) ∧ (MemAct.ofEvent e).low w.heap.size)
    (hrel : out s1 = true → ∃ r, Rel c.Wg (t ++ MemOp.ofEvents (c.b + i) g.frame.fn g.frame.place es) (c.b + i) r)
    (pos : 1 ≤ vC s + xC s + yC s) (w1 : isW s1 = true)
    (hv : v + vC s = S.v + vC s1) (hl : lC s1 ≤ lC s) (hnx : nx + lC s1 ≤ S.nx + lC s ∨ nx ≤ c.N) (hle : S.nx ≤ nx) (hvc : vC s1 ≤ vC s)
    (hcount : ∀ k, kC k s1 + (if k < S.nx ∧ k < c.N then 1 else 0) = kC k s + (if k < nx ∧ k < c.N then 1 else 0)) (hlate : Pool.late s1 = true → c.N ≤ nx)
    (hmode : ∀ ck w3 w3' x y x' y', (w3 = true → w3' = true) → (wks c.P g g' = true → ck = 1 → w3' = true) → x' + xC s = x + xC s1 → y' + yC s = y + yC s1 → ModeP S.cl ck w3 S.v S.wtg S.sm x y → ModeP S.cl ck w3' v wtg sm x' y')
    (hpk : pC s1 = 0) (hphi : 4 * (c.N - nx) + wgt s1 + (if v = S.v then 0 else 2) < 4 * (c.N - S.nx) + wgt s) :
    ∃ S' gs' w' ops, runT c.P (crowd gs w sl) (c.b + i) = (.next (crowd gs' w' sl), ops) ∧ Inv c Shun S' gs' w' (t ++ ops) ∧ Lt (mu c S' gs'.size) (mu c S gs.size) := by
  have A := h.ari
  have hsz := h.sits.size
  have hb := A.b
  have hlt : c.b + i < gs.size := (Array.getElem?_eq_some_iff.1 hg).1
  rw [show false = ((c.b + i) == 0) by simp; omega] at e
  have ncl : S.cl = true → isCL (S.stg (c.b + c.n)) = false := h.notCL hlt (by rw [hs]; exact pos)
  have kp : Kept (c := c) S (c.b + i) w w' := ⟨Nat.le_of_eq sz.symm, fun b _ _ hb => kb b hb, rest, fun _ => ⟨⟨_, _, wg⟩, ⟨_, ct⟩, _, _, _, _, ch.trans h.hea.ch⟩⟩
  refine act h hg e (.inr (by unfold kid; omega)) sz kb rest (S' := { S.to (c.b + i) s1 k1 own1 (wks c.P g g') S.shut with nx := nx, v := v, wtg := wtg, sm := sm }) (s1 := s1) (k1 := k1) (own1 := own1) rfl rfl rfl rfl rfl rfl rfl ho
    ⟨wg, ct, ch.trans h.hea.ch, fun i n v hi => L.item _ _ _ _ _ (kp.fly h.tra) (h.hea.items i n v hi), h.hea.len, h.hea.room⟩ ?_ ?_ ok h.pcs hev (fun _ _ _ o => hrel o) (fun e => by have := A.j; omega) (fun hcl hCL => by rw [ncl hcl] at hCL; cases hCL)
  · refine A.worker hsz hi hs rfl rfl rfl rfl w1 hv hl hnx hle hvc (fun k => ?_) hlate hmode (fun e => by omega) (.inl rfl) (fun hp => (A.pkm hp).1)
    · have := hcount k
      show (S.bf.map (·.1)).count k + kC k s1 + _ = (S.bf.map (·.1)).count k + kC k s + (if k < nx ∧ k < c.N then 1 else 0)
      omega
  · refine lt_of_phi hlt hs (S' := { S.to (c.b + i) s1 k1 own1 (wks c.P g g') S.shut with nx := nx, v := v, wtg := wtg, sm := sm }) rfl (fun x hx hp _ => by have := h.pks x hx hp; subst this; exact (A.pkm hp).2) ?_
    have h1 := stale_same (c := c) (S := S) (S' := { S.to (c.b + i) s1 k1 own1 (wks c.P g g') S.shut with nx := nx, v := v, wtg := wtg, sm := sm }) (s1 := s1) (wk := wks c.P g g') (sh := S.shut) (i0 := c.b + i) rfl (by have := A.j; omega) v
    show 4 * (c.N - nx) + S.bf.length + wgt s1 + (if S.cl then stale v _ else 0) < 4 * (c.N - S.nx) + S.bf.length + wgt s + (if S.cl then stale S.v _ else 0)
    rw [h1]
    by_cases e : v = S.v
    · subst e
      simp only [if_true] at hphi
      omega
    · rw [if_neg e] at hphi
      have := stale_le v (S.stg (c.b + c.n))
      split <;> omega
end
end Pool
end Go.Proofs.YtdkpbobglogmoaaGreat
namespace Go.Proofs.YtdkpbobglogmoaaGreat
open Go Go.Conc
open Go.ConcR (KK wgBlock WgAt stA smA rd wr mk)
open Go.ConcN (sumTo upd sumTo_upd upd_ne upd_same sumTo_congr le_sumTo)
namespace Pool
open Ren (Loc.blk Rely Gt Gk Rk Terms Did EvO New With)
variable {c : Cfg} {Shun : Loc → Prop}
theorem mode_keep {cl : Bool} {ck : Nat} {w3 w3' : Bool} {v wt sm x y : Nat} (h3 : w3 = true → w3' = true) (hm : ModeP cl ck w3 v wt sm x y) : ModeP cl ck w3' v wt sm x y := by
  unfold ModeP at hm ⊢
  rcases hm with a | ⟨a1, a2, a3⟩ | a
  · exact .inl a
  · exact .inr (.inl ⟨a1, a2, a3.imp id fun ⟨b1, b2⟩ => ⟨b1, b2.imp id fun b3 => b3.imp id fun ⟨c1, c2, c3, c4, c5⟩ => ⟨c1, c2, c3, c4, h3 c5⟩⟩⟩)
  · exact .inr (.inr a)
theorem mode_last {cl : Bool} {ck : Nat} {w3 w3' : Bool} {v wt sm x y : Nat} (h1 : v = 1) (h2 : wt = 1) (hm : ModeP cl ck w3 v wt sm x y) : ModeP cl ck w3' (v - 1) wt 0 (x + 1) y := by
  unfold ModeP at hm ⊢
  rcases hm with ⟨_, a, _⟩ | ⟨a1, a2, ⟨b1, b2, b3, b4, b5⟩ | ⟨b, _⟩⟩ | ⟨_, _, a, _⟩
  · omega
  · exact .inr (.inl ⟨a1, a2, .inr ⟨by omega, .inl ⟨b2, by omega, b5, rfl⟩⟩⟩)
  · omega
  · omega
theorem mode_less {cl : Bool} {ck : Nat} {w3 w3' : Bool} {v wt sm x y : Nat} (h1 : 1 ≤ v) (h2 : ¬ (v = 1 ∧ wt = 1)) (hm : ModeP cl ck w3 v wt sm x y) : ModeP cl ck w3' (v - 1) wt 0 x y := by
  unfold ModeP at hm ⊢
  rcases hm with ⟨a0, a1, a2, a3⟩ | ⟨a1, a2, ⟨b1, b2, b3, b4, b5⟩ | ⟨b, _⟩⟩ | ⟨_, _, a, _⟩
  · exact .inl ⟨a0, a1, rfl, a3⟩
  · exact .inr (.inl ⟨a1, a2, .inl ⟨by omega, b2, rfl, b4, b5⟩⟩)
  · omega
  · omega
theorem mode_nought {cl : Bool} {ck : Nat} {w3 w3' : Bool} {v wt sm x y x' y' : Nat} (h1 : x' + 1 = x) (h2 : y' = y + 1) (hm : ModeP cl ck w3 v wt sm x y) : ModeP cl ck w3' v 0 0 x' y' := by
  unfold ModeP at hm ⊢
  rcases hm with ⟨_, _, _, a, _⟩ | ⟨a1, a2, ⟨b1, b2, b3, b4, b5⟩ | ⟨b, ⟨c1, c2, c3, c4⟩ | ⟨c1, c2, _⟩ | ⟨c1, c2, _⟩⟩⟩ | ⟨_, _, _, _, _, a, _⟩
  · omega
  · omega
  · exact .inr (.inl ⟨a1, a2, .inr ⟨b, .inr (.inl ⟨rfl, by omega, by omega, rfl⟩)⟩⟩)
  · omega
  · omega
  · omega
theorem mode_woken {cl : Bool} {ck : Nat} {w3 w3' : Bool} {v wt sm x y x' y' : Nat} (h1 : x' = x) (h2 : y' + 1 = y) (h3 : ck = 1 → w3' = true) (hm : ModeP cl ck w3 v wt sm x y) : ModeP cl ck w3' v 0 1 x' y' := by
  unfold ModeP at hm ⊢
  rcases hm with ⟨_, _, _, _, a⟩ | ⟨a1, a2, ⟨b1, b2, b3, b4, b5⟩ | ⟨b, ⟨c1, c2, c3, c4⟩ | ⟨c1, c2, c3, c4⟩ | ⟨c1, c2, c3, _⟩⟩⟩ | ⟨_, _, _, _, _, _, a⟩
  · omega
  · omega
  · omega
  · exact .inr (.inl ⟨a1, a2, .inr ⟨b, .inr (.inr ⟨rfl, by omega, by omega, rfl, h3 a2⟩)⟩⟩)
  · omega
  · omega
def OnWg (Wg : Nat) (e : Event) : Prop := (∃ off, e.loc = .cell ⟨Wg, off, none⟩ ∧ e.sync = true) ∨ e.mute = true ∨ (∃ m, e.loc = .mark m ∧ (m = .releaseMerge ⟨Wg, 0, none⟩ ∨ m = .acquire ⟨Wg, 0, none⟩))
theorem onWg_ok {S : St} {w : World} {t : Trace} (h : Tra c Shun S w t) {e : Event} (he : OnWg c.Wg e) : (∀ x, (MemAct.ofEvent e).touch? = some x → ∃ b, Loc.blk x.loc = some b ∧ c.Sb b ∧ x.kind = .atomic) ∧ (∀ a, e.loc ≠ .mark (.release a)) ∧ (MemAct.ofEvent e).low w.heap.size := by
  have hw := h.sbLt c.Wg (.inl rfl)
  obtain ⟨l, a1, a2⟩ := e
  rcases he with ⟨off, q1, q2⟩ | q | ⟨m, q1, q2⟩
  · simp only at q1 q2
    subst q1 q2
    refine ⟨fun x hx => ?_, fun a e => (by cases e), hw⟩
    simp only [MemAct.ofEvent, MemAct.touch?, Option.some.injEq] at hx
    subst hx
    exact ⟨c.Wg, rfl, .inl rfl, rfl⟩
  · refine ⟨fun x hx => (by rw [touch_mute q] at hx; cases hx), fun a e => ?_, low_mute q _⟩
    simp only at e
    subst e
    simp [Event.mute] at q
  · simp only at q1
    subst q1
    rcases q2 with rfl | rfl
    · exact ⟨fun x hx => (by cases hx), fun a e => (by cases e), hw⟩
    · exact ⟨fun x hx => (by cases hx), fun a e => (by cases e), hw⟩
theorem onWg_touch {Wg : Nat} {e : Event} (he : OnWg Wg e) {a : Touch} (ha : (MemAct.ofEvent e).touch? = some a) : Loc.blk a.loc = some Wg ∧ a.kind = .atomic := by
  obtain ⟨l, a1, a2⟩ := e
  rcases he with ⟨off, q1, q2⟩ | q | ⟨m, q1, q2⟩
  · simp only at q1 q2
    subst q1 q2
    simp only [MemAct.ofEvent, MemAct.touch?, Option.some.injEq] at ha
    subst ha
    exact ⟨rfl, rfl⟩
  · rw [touch_mute q] at ha; cases ha
  · simp only at q1
    subst q1
    rcases q2 with rfl | rfl <;> cases ha
theorem on_rd (Wg : Nat) : OnWg Wg (rd (stA Wg)) := .inl ⟨0, rfl, rfl⟩
theorem on_wr (Wg : Nat) : OnWg Wg (wr (stA Wg)) := .inl ⟨0, rfl, rfl⟩
theorem on_sem (Wg : Nat) : ∀ e ∈ semEvents (smA Wg), OnWg Wg e := by
  intro e he
  simp only [semEvents, List.mem_toArray, List.mem_cons, List.not_mem_nil, or_false] at he
  rcases he with rfl | rfl | rfl | rfl
  · exact .inr (.inl rfl)
  · exact .inl ⟨1, rfl, rfl⟩
  · exact .inl ⟨1, rfl, rfl⟩
  · exact .inr (.inl rfl)
theorem setWg_kb {w : World} {off : Nat} {v : Value} : ∀ b, ¬ c.Sb b → (w.setCell ⟨c.Wg, off, none⟩ v).heap[b]? = w.heap[b]? := fun b hb => setCell_ne _ _ _ fun e => hb (.inl e)
section
variable {S : St} {gs : Array Goroutine} {w : World} {sl : Option (Nat × Nat)} {t : Trace} {g : Goroutine} {i : Nat}
theorem fetch (L : Laws c) (h : Inv c Shun S gs w t) (hi : i < S.j) (hg : gs[c.b + i]? = some g) (hs : S.stg (c.b + i) = .L) (hA : AtFetch c (Deaf t (c.b + i)) (S.lay.own (c.b + i)) g w) :
    ∃ S' gs' w' ops, runT c.P (crowd gs w sl) (c.b + i) = (.next (crowd gs' w' sl), ops) ∧ Inv c Shun S' gs' w' (t ++ ops) ∧ Lt (mu c S' gs'.size) (mu c S gs.size) := by
  have A := h.ari
  have hnx : S.nx < 4611686018427387904 := by have := A.nx; have := L.N; have := A.j; omega
  obtain ⟨h1, h2, h3⟩ := hA
  obtain ⟨g', es, e, hes, k1, k2⟩ := h3 S.nx hnx h.hea.ct
  obtain ⟨n1, n2, n3⟩ := h.hea.ne
  have hev : ∀ e ∈ es, (∀ x, (MemAct.ofEvent e).touch? = some x → ∃ b, Loc.blk x.loc = some b ∧ c.Sb b ∧ x.kind = .atomic) ∧ (∀ a, e.loc ≠ .mark (.release a)) ∧ (MemAct.ofEvent e).low w.heap.size ∧ e.loc ≠ .mark .disable ∧ e.loc ≠ .mark .enable := by
    intro ev he
    obtain ⟨q1, q2⟩ := hes ev he
    obtain ⟨l, a1, a2⟩ := ev
    simp only at q1 q2
    subst q1 q2
    refine ⟨fun x hx => ?_, fun a e => (by cases e), h.tra.sbLt _ (.inr (.inl rfl)), fun e => (by cases e), fun e => (by cases e)⟩
    simp only [MemAct.ofEvent, MemAct.touch?, Option.some.injEq] at hx
    subst hx
    exact ⟨c.A, rfl, .inr (.inl rfl), rfl⟩
  have hdf : deafBehind (Deaf t (c.b + i)) es = 0 := by rw [deafBehind_still fun e he => (hev e he).2.2.2]; exact h2
  have ct' : CtAt c (w.setCell ⟨c.A, 0, none⟩ (.int .i64 (S.nx + 1 : Nat))) (S.nx + 1) := setCell_at (off := 0) h.hea.ct
  by_cases hN : S.nx < c.N
  · obtain ⟨k, hk⟩ := (k1 hN).rank
    refine actW h hi hg hs e (setCell_size _ _ _) (fun b hb => setCell_ne _ _ _ fun e => hb (.inr (.inl e))) ⟨rfl, rfl⟩ (s1 := .S S.nx) (k1 := k) (own1 := S.lay.own (c.b + i)) (fun b hb => hb) (nx := S.nx + 1) (v := S.v) (wtg := S.wtg) (sm := S.sm)
      ((setCell_ne _ _ _ n1).trans h.hea.wg) ct' (setCell_ne _ _ _ n3.symm) L (by rw [hdf]; exact hk) (fun ev he => ⟨(hev ev he).1, (hev ev he).2.1, (hev ev he).2.2.1⟩) (fun o => by cases o) (by decide) rfl rfl (Nat.le_refl _) (.inr (by omega)) (by omega) (Nat.le_refl _) (fun k => ?_) (fun e => by cases e)
      (fun ck w3 w3' x y x' y' h3 _ hx hy hm => ?_) rfl (by simp [wgt]; omega)
    · simp only [kC]
      split <;> split <;> split <;> omega
    · simp only [xC, yC, Nat.add_zero] at hx hy
      subst hx hy
      exact mode_keep h3 hm
  · obtain ⟨k, hk⟩ := (k2 (by omega)).rank
    refine actW h hi hg hs e (setCell_size _ _ _) (fun b hb => setCell_ne _ _ _ fun e => hb (.inr (.inl e))) ⟨rfl, rfl⟩ (s1 := .R) (k1 := k) (own1 := S.lay.own (c.b + i)) (fun b hb => hb) (nx := S.nx + 1) (v := S.v) (wtg := S.wtg) (sm := S.sm)
      ((setCell_ne _ _ _ n1).trans h.hea.wg) ct' (setCell_ne _ _ _ n3.symm) L (by rw [hdf]; exact hk) (fun ev he => ⟨(hev ev he).1, (hev ev he).2.1, (hev ev he).2.2.1⟩) (fun o => by cases o) (by decide) rfl rfl (by simp [lC]) (.inl (by simp [lC])) (by omega) (Nat.le_refl _) (fun k => ?_) (fun e => by omega)
      (fun ck w3 w3' x y x' y' h3 _ hx hy hm => ?_) rfl (by simp [wgt]; omega)
    · simp only [kC]
      split <;> split <;> omega
    · simp only [xC, yC, Nat.add_zero] at hx hy
      subst hx hy
      exact mode_keep h3 hm
theorem relm (L : Laws c) (h : Inv c Shun S gs w t) (hi : i < S.j) (hg : gs[c.b + i]? = some g) (hs : S.stg (c.b + i) = .R) (hA : AtRel c (Deaf t (c.b + i)) (S.lay.own (c.b + i)) g w) :
    ∃ S' gs' w' ops, runT c.P (crowd gs w sl) (c.b + i) = (.next (crowd gs' w' sl), ops) ∧ Inv c Shun S' gs' w' (t ++ ops) ∧ Lt (mu c S' gs'.size) (mu c S gs.size) := by
  obtain ⟨h1, h2, g', e, k1⟩ := hA
  have hdf : deafBehind (Deaf t (c.b + i)) #[mk (.releaseMerge (stA c.Wg))] = 0 := by rw [h2]; rfl
  obtain ⟨k, hk⟩ := k1.rank
  refine actW h hi hg hs e rfl (fun b hb => rfl) ⟨rfl, rfl⟩ (s1 := .D) (k1 := k) (own1 := None) (fun b hb => hb.elim) (nx := S.nx) (v := S.v) (wtg := S.wtg) (sm := S.sm)
    h.hea.wg h.hea.ct rfl L (by rw [hdf]; exact ⟨hk, fun b hb => hb⟩) (fun ev he => onWg_ok h.tra (by simp at he; subst he; exact .inr (.inr ⟨_, rfl, .inl rfl⟩))) (fun o => ?_) (by decide) rfl rfl (Nat.le_refl _) (.inl (Nat.le_refl _)) (Nat.le_refl _) (Nat.le_refl _) (fun k => rfl)
    (fun _ => h.ari.lates i hi (by rw [hs]; rfl)) (fun ck w3 w3' x y x' y' h3 _ hx hy hm => ?_) rfl (by simp [wgt])
  · have hat : (t ++ MemOp.ofEvents (c.b + i) g.frame.fn g.frame.place #[mk (.releaseMerge (stA c.Wg))])[t.size]? = some { g := c.b + i, fn := g.frame.fn, pos := g.frame.place, act := .mark (.releaseMerge (stA c.Wg)) } := by
      rw [Array.getElem?_append_right (Nat.le_refl _), Nat.sub_self]; simp [ofEvents_eq, mk, MemAct.ofEvent]
    refine ⟨t.size, ⟨act?_of hat, by simp [Trace.g?, hat], ⟨c.b + i, by simp [Trace.g?, hat], ?_⟩, fun j hj hgj a ha => ?_⟩⟩
    · rw [deaf_old (Nat.le_refl _)]; exact h2
    · exfalso
      obtain ⟨op, hop, _⟩ := touch_of ha
      have := lt_size_of_getElem? hop
      rw [Array.size_append] at this
      have h1 : (MemOp.ofEvents (c.b + i) g.frame.fn g.frame.place #[mk (.releaseMerge (stA c.Wg))]).size = 1 := by simp [ofEvents_eq]
      omega
  · simp only [xC, yC, Nat.add_zero] at hx hy
    subst hx hy
    exact mode_keep h3 hm
theorem rel_deaf2 {r : Nat} (hr : Rel c.Wg t (c.b + i) r) (hd : Deaf t (c.b + i) = 1) (fn : FuncId) (pos : String) {es : Array Event} (he : ∀ e ∈ es, OnWg c.Wg e) (hk : ∀ j, j < es.size → deafBehind 1 (es.extract 0 j) ≠ 0) : ∃ r, Rel c.Wg (t ++ MemOp.ofEvents (c.b + i) fn pos es) (c.b + i) r :=
  ⟨r, hr.deaf fn pos es fun j hj a ha => by
    obtain ⟨h1, h2⟩ := onWg_touch (he _ (Array.getElem_mem hj)) ha
    exact ⟨h1, h2, by rw [hd]; exact hk j hj⟩⟩
theorem addn (L : Laws c) (h : Inv c Shun S gs w t) (hi : i < S.j) (hg : gs[c.b + i]? = some g) (hs : S.stg (c.b + i) = .D) (hA : AtAdd c (Deaf t (c.b + i)) (S.lay.own (c.b + i)) g w) :
    ∃ S' gs' w' ops, runT c.P (crowd gs w sl) (c.b + i) = (.next (crowd gs' w' sl), ops) ∧ Inv c Shun S' gs' w' (t ++ ops) ∧ Lt (mu c S' gs'.size) (mu c S gs.size) := by
  have A := h.ari
  have hlt : c.b + i < gs.size := (Array.getElem?_eq_some_iff.1 hg).1
  obtain ⟨h1, h2, h3⟩ := hA
  have hv1 : 1 ≤ S.v := by
    have b1 : vC (S.stg (c.b + i)) ≤ sumTo gs.size fun i => vC (S.stg i) := le_sumTo (f := fun i => vC (S.stg i)) hlt
    rw [hs] at b1
    have := A.v
    have e1 : vC .D = 1 := rfl
    omega
  have hm := A.mode
  have hws : S.wtg ≤ 1 ∧ S.sm = 0 := by unfold ModeP at hm; omega
  have hwg : WgAt c.ty c.Wg w (S.v * KK + S.wtg) 0 := by have := h.hea.wg; rw [hws.2] at this; exact this
  obtain ⟨g', e, k1, k2⟩ := h3 S.v S.wtg hv1 (by have := A.vn; have := L.n2; omega) hws.1 hwg
  have hdf : deafBehind (Deaf t (c.b + i)) #[rd (stA c.Wg), wr (stA c.Wg)] = 1 := by rw [h2]; rfl
  have hev : ∀ e ∈ #[rd (stA c.Wg), wr (stA c.Wg)], OnWg c.Wg e := fun e he => by
    simp at he
    rcases he with rfl | rfl
    · exact on_rd _
    · exact on_wr _
  obtain ⟨n1, n2, n3⟩ := h.hea.ne
  obtain ⟨r, hr⟩ := h.tra.rel i hi (by rw [hs]; rfl)
  have hrel := rel_deaf2 hr h2 g.frame.fn g.frame.place hev (fun j hj => by
    rcases j with _ | _ | j
    · exact (by decide : (1 : Nat) ≠ 0)
    · exact (by decide : (1 : Nat) ≠ 0)
    · exact absurd hj (by simp))
  have wg' : WgAt c.ty c.Wg (w.setCell (stA c.Wg) (.int .u64 ((S.v - 1 : Nat) * KK + S.wtg))) ((S.v - 1 : Nat) * KK + S.wtg) ((0 : Nat) : Int) := WgAt.st hwg
  by_cases hc : S.v = 1 ∧ S.wtg = 1
  · obtain ⟨k, hk⟩ := (k1 hc).rank
    refine actW h hi hg hs e (setCell_size _ _ _) setWg_kb ⟨rfl, rfl⟩ (s1 := .D2) (k1 := k) (own1 := None) (fun b hb => hb.elim) (nx := S.nx) (v := S.v - 1) (wtg := S.wtg) (sm := 0) wg' ((setCell_ne _ _ _ n1.symm).trans h.hea.ct) (setCell_ne _ _ _ n2.symm) L
      (by rw [hdf]; exact ⟨hk, fun b hb => hb⟩) (fun ev he => onWg_ok h.tra (hev ev he)) (fun _ => hrel) (by decide) rfl (by simp [vC]; omega) (Nat.le_refl _) (.inl (Nat.le_refl _)) (Nat.le_refl _) (by simp [vC]) (fun k => rfl) (fun _ => A.lates i hi (by rw [hs]; rfl))
      (fun ck w3 w3' x y x' y' h3 _ hx hy hm => ?_) rfl (by simp only [wgt]; split <;> omega)
    have hx : x' = x + 1 := hx
    have hy : y' = y := hy
    subst hx hy
    exact mode_last hc.1 hc.2 hm
  · obtain ⟨q, hq⟩ := k2 hc
    refine actW h hi hg hs e (setCell_size _ _ _) setWg_kb ⟨rfl, rfl⟩ (s1 := .Q) (k1 := chain q) (own1 := None) (fun b hb => hb.elim) (nx := S.nx) (v := S.v - 1) (wtg := S.wtg) (sm := 0) wg' ((setCell_ne _ _ _ n1.symm).trans h.hea.ct) (setCell_ne _ _ _ n2.symm) L
      (by rw [hdf]; exact ⟨q, rfl, hq⟩) (fun ev he => onWg_ok h.tra (hev ev he)) (fun _ => hrel) (by decide) rfl (by simp [vC]; omega) (Nat.le_refl _) (.inl (Nat.le_refl _)) (Nat.le_refl _) (by simp [vC]) (fun k => rfl) (fun _ => A.lates i hi (by rw [hs]; rfl))
      (fun ck w3 w3' x y x' y' h3 _ hx hy hm => ?_) rfl (by simp only [wgt]; split <;> omega)
    have hx : x' = x := hx
    have hy : y' = y := hy
    subst hx hy
    exact mode_less hv1 hc hm
theorem load2 (L : Laws c) (h : Inv c Shun S gs w t) (hi : i < S.j) (hg : gs[c.b + i]? = some g) (hs : S.stg (c.b + i) = .D2) (hA : AtLoad2 c (Deaf t (c.b + i)) (S.lay.own (c.b + i)) g w) :
    ∃ S' gs' w' ops, runT c.P (crowd gs w sl) (c.b + i) = (.next (crowd gs' w' sl), ops) ∧ Inv c Shun S' gs' w' (t ++ ops) ∧ Lt (mu c S' gs'.size) (mu c S gs.size) := by
  have A := h.ari
  have hlt : c.b + i < gs.size := (Array.getElem?_eq_some_iff.1 hg).1
  obtain ⟨h1, h2, h3⟩ := hA
  have hx1 : 1 ≤ sumTo gs.size fun i => xC (S.stg i) := by
    have b1 : xC (S.stg (c.b + i)) ≤ sumTo gs.size fun i => xC (S.stg i) := le_sumTo (f := fun i => xC (S.stg i)) hlt
    rw [hs] at b1
    exact b1
  have hm := A.mode
  have hws : S.wtg = 1 ∧ S.sm = 0 ∧ S.v = 0 := by unfold ModeP at hm; omega
  have hwg : WgAt c.ty c.Wg w 1 0 := by have := h.hea.wg; rw [hws.1, hws.2.1, hws.2.2] at this; simpa using this
  obtain ⟨g', e, k1⟩ := h3 hwg
  obtain ⟨k, hk⟩ := k1.rank
  have hdf : deafBehind (Deaf t (c.b + i)) #[rd (stA c.Wg)] = 1 := by rw [h2]; rfl
  have hev : ∀ e ∈ #[rd (stA c.Wg)], OnWg c.Wg e := fun e he => by
    simp at he
    subst he
    exact on_rd _
  obtain ⟨r, hr⟩ := h.tra.rel i hi (by rw [hs]; rfl)
  have hrel := rel_deaf2 hr h2 g.frame.fn g.frame.place hev (fun j hj => by
    rcases j with _ | j
    · exact (by decide : (1 : Nat) ≠ 0)
    · exact absurd hj (by simp))
  refine actW h hi hg hs e rfl (fun b hb => rfl) ⟨rfl, rfl⟩ (s1 := .D3) (k1 := k) (own1 := None) (fun b hb => hb.elim) (nx := S.nx) (v := S.v) (wtg := S.wtg) (sm := S.sm) h.hea.wg h.hea.ct rfl L
    (by rw [hdf]; exact ⟨hk, fun b hb => hb⟩) (fun ev he => onWg_ok h.tra (hev ev he)) (fun _ => hrel) (by decide) rfl rfl (Nat.le_refl _) (.inl (Nat.le_refl _)) (Nat.le_refl _) (Nat.le_refl _) (fun k => rfl) (fun _ => A.lates i hi (by rw [hs]; rfl))
    (fun ck w3 w3' x y x' y' h3 _ hx hy hm => ?_) rfl (by simp [wgt])
  simp only [xC, yC] at hx hy
  rw [show x' = x by omega, show y' = y by omega]
  exact mode_keep h3 hm
theorem store0 (L : Laws c) (h : Inv c Shun S gs w t) (hi : i < S.j) (hg : gs[c.b + i]? = some g) (hs : S.stg (c.b + i) = .D3) (hA : AtStore0 c (Deaf t (c.b + i)) (S.lay.own (c.b + i)) g w) :
    ∃ S' gs' w' ops, runT c.P (crowd gs w sl) (c.b + i) = (.next (crowd gs' w' sl), ops) ∧ Inv c Shun S' gs' w' (t ++ ops) ∧ Lt (mu c S' gs'.size) (mu c S gs.size) := by
  have A := h.ari
  have hlt : c.b + i < gs.size := (Array.getElem?_eq_some_iff.1 hg).1
  obtain ⟨h1, h2, h3⟩ := hA
  have hx1 : 1 ≤ sumTo gs.size fun i => xC (S.stg i) := by
    have b1 : xC (S.stg (c.b + i)) ≤ sumTo gs.size fun i => xC (S.stg i) := le_sumTo (f := fun i => xC (S.stg i)) hlt
    rw [hs] at b1
    exact b1
  have hm := A.mode
  have hws : S.wtg = 1 ∧ S.sm = 0 ∧ S.v = 0 := by unfold ModeP at hm; omega
  have hwg : WgAt c.ty c.Wg w 1 0 := by have := h.hea.wg; rw [hws.1, hws.2.1, hws.2.2] at this; simpa using this
  obtain ⟨g', e, k1⟩ := h3 hwg
  obtain ⟨k, hk⟩ := k1.rank
  obtain ⟨n1, n2, n3⟩ := h.hea.ne
  have hdf : deafBehind (Deaf t (c.b + i)) #[wr (stA c.Wg)] = 1 := by rw [h2]; rfl
  have hev : ∀ e ∈ #[wr (stA c.Wg)], OnWg c.Wg e := fun e he => by
    simp at he
    subst he
    exact on_wr _
  obtain ⟨r, hr⟩ := h.tra.rel i hi (by rw [hs]; rfl)
  have hrel := rel_deaf2 hr h2 g.frame.fn g.frame.place hev (fun j hj => by
    rcases j with _ | j
    · exact (by decide : (1 : Nat) ≠ 0)
    · exact absurd hj (by simp))
  refine actW h hi hg hs e (setCell_size _ _ _) setWg_kb ⟨rfl, rfl⟩ (s1 := .D4) (k1 := k) (own1 := None) (fun b hb => hb.elim) (nx := S.nx) (v := S.v) (wtg := 0) (sm := 0) (by have := WgAt.st hwg (st' := 0); rw [hws.2.2]; simpa using this) ((setCell_ne _ _ _ n1.symm).trans h.hea.ct) (setCell_ne _ _ _ n2.symm) L
    (by rw [hdf]; exact ⟨hk, fun b hb => hb⟩) (fun ev he => onWg_ok h.tra (hev ev he)) (fun _ => hrel) (by decide) rfl rfl (Nat.le_refl _) (.inl (Nat.le_refl _)) (Nat.le_refl _) (Nat.le_refl _) (fun k => rfl) (fun _ => A.lates i hi (by rw [hs]; rfl))
    (fun ck w3 w3' x y x' y' h3 _ hx hy hm => ?_) rfl (by simp [wgt])
  exact mode_nought hx hy hm
theorem semrel (L : Laws c) (h : Inv c Shun S gs w t) (hi : i < S.j) (hg : gs[c.b + i]? = some g) (hs : S.stg (c.b + i) = .D4) (hA : AtSemrel c (Deaf t (c.b + i)) (S.lay.own (c.b + i)) g w) :
    ∃ S' gs' w' ops, runT c.P (crowd gs w sl) (c.b + i) = (.next (crowd gs' w' sl), ops) ∧ Inv c Shun S' gs' w' (t ++ ops) ∧ Lt (mu c S' gs'.size) (mu c S gs.size) := by
  have A := h.ari
  have hlt : c.b + i < gs.size := (Array.getElem?_eq_some_iff.1 hg).1
  obtain ⟨h1, h2, hmw, h3⟩ := hA
  have hy1 : 1 ≤ sumTo gs.size fun i => yC (S.stg i) := by
    have b1 : yC (S.stg (c.b + i)) ≤ sumTo gs.size fun i => yC (S.stg i) := le_sumTo (f := fun i => yC (S.stg i)) hlt
    rw [hs] at b1
    exact b1
  have hm := A.mode
  have hws : S.wtg = 0 ∧ S.sm = 0 ∧ S.v = 0 := by unfold ModeP at hm; omega
  have hwg : WgAt c.ty c.Wg w 0 0 := by have := h.hea.wg; rw [hws.1, hws.2.1, hws.2.2] at this; simpa using this
  obtain ⟨g', q, e, k1⟩ := h3 hwg
  obtain ⟨n1, n2, n3⟩ := h.hea.ne
  have hdf : deafBehind (Deaf t (c.b + i)) (semEvents (smA c.Wg)) = 1 := by rw [h2]; rfl
  have hwk : wks c.P g g' = true := by
    unfold wks
    rw [hmw]
    rcases k1.status with e | e <;> rw [e] <;> rfl
  obtain ⟨r, hr⟩ := h.tra.rel i hi (by rw [hs]; rfl)
  have hrel := rel_deaf2 hr h2 g.frame.fn g.frame.place (on_sem c.Wg) (fun j hj => by
    rcases j with _ | _ | _ | _ | j
    · exact (by decide : (1 : Nat) ≠ 0)
    · exact (by decide : (2 : Nat) ≠ 0)
    · exact (by decide : (2 : Nat) ≠ 0)
    · exact (by decide : (2 : Nat) ≠ 0)
    · exact absurd hj (by simp [semEvents]))
  refine actW h hi hg hs e (setCell_size _ _ _) setWg_kb ⟨rfl, rfl⟩ (s1 := .Q) (k1 := chain q) (own1 := None) (fun b hb => hb.elim) (nx := S.nx) (v := S.v) (wtg := 0) (sm := 1) (by have := WgAt.sem hwg (sm' := 1); rw [hws.2.2]; simpa using this) ((setCell_ne _ _ _ n1.symm).trans h.hea.ct) (setCell_ne _ _ _ n2.symm) L
    (by rw [hdf]; exact ⟨q, rfl, k1⟩) (fun ev he => onWg_ok h.tra (on_sem c.Wg ev he)) (fun _ => hrel) (by decide) rfl rfl (Nat.le_refl _) (.inl (Nat.le_refl _)) (Nat.le_refl _) (Nat.le_refl _) (fun k => rfl) (fun _ => A.lates i hi (by rw [hs]; rfl))
    (fun ck w3 w3' x y x' y' h3 hwk' hx hy hm => ?_) rfl (by simp [wgt])
  exact mode_woken hx hy (hwk' hwk) hm
end
end Pool
end Go.Proofs.YtdkpbobglogmoaaGreat
