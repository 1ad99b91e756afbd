/- Parts of the proof of TopCommandsProof: PoolInit PoolCfg PoolRound PoolMain PoolOne PoolTail. -/
import Derived.WalkKit
import Derived.Laws.IdiomMaps
import Derived.Maps.Own
import Derived.Test.YtdkpbobglogmoaaGreatTk8
import Derived.Test.YtdkpbobglogmoaaGreatTk10
import Derived.Test.YtdkpbobglogmoaaGreatTk16
import Derived.Test.YtdkpbobglogmoaaGreatTk19
set_option linter.unusedVariables false
set_option linter.unusedSimpArgs false
set_option maxRecDepth 100000
set_option maxHeartbeats 32000000
namespace Go.Proofs.YtdkpbobglogmoaaGreat
open Go Go.Conc
open Go.ConcR (KK wgBlock WgAt stA smA rd wr mk)
open Go.ConcN (sumTo upd sumTo_upd upd_ne upd_same sumTo_congr le_sumTo)
namespace Pool
open Ren (Loc.blk Rely Gt Gk Rk Terms Did EvO New With Bes)
variable {c : Cfg} {Shun : Loc → Prop}
theorem sum1 {f : Nat → Nat} (h : ∀ i, 0 < i → f i = 0) : ∀ m, 0 < m → sumTo m f = f 0
  | 0, h0 => absurd h0 (by omega)
  | 1, _ => by simp [sumTo]
  | m + 2, _ => by
    have := sum1 h (m + 1) (by omega)
    simp only [sumTo] at this ⊢
    rw [h (m + 1) (by omega)]
    omega
theorem pool_start (L : Laws c) {gs : Array Goroutine} {g : Goroutine} {w : World} {t : Trace} {O : Nat → Prop} {k : Rk} (hb : Bes c.P Shun gs g w t) (hs : gs.size = c.b)
    (hg : Gk c.Tm (AtAddS c (AtGo c c.Lp (Starts c (c.n - 1)))) k 0 O g w) (hwg : WgAt c.ty c.Wg w 0 0) (hct : CtAt c w 0) (hch : ChAt c w #[] false 0 0)
    (hO : ∀ b, O b → b < w.heap.size ∧ ¬ c.Cold b ∧ ¬ c.Sb b) (hC : ∀ b, c.Cold b → b < w.heap.size ∧ ¬ c.Sb b) (hSh : ∀ l b, Shun l → Loc.blk l = some b → ¬ O b ∧ ¬ c.Cold b)
    (un : ∀ i a b, touchAt t i = some a → Loc.blk a.loc = some b → ¬ c.Sb b) (nr : NoRelease ⟨c.Wg, 0, none⟩ t) : ∃ S, Inv c Shun S gs w t := by
  obtain ⟨h0, ⟨q, hL⟩, hP⟩ := hb
  have hlt : 0 < gs.size := (Array.getElem?_eq_some_iff.1 h0).1
  have hsz : ∀ b, c.Sb b → b < w.heap.size := by
    rintro b (rfl | rfl | rfl)
    · exact (Array.getElem?_eq_some_iff.1 (show w.heap[c.Wg]? = some _ from hwg)).1
    · exact (Array.getElem?_eq_some_iff.1 (show w.heap[c.A]? = some _ from hct)).1
    · exact (Array.getElem?_eq_some_iff.1 (show w.heap[c.C]? = some _ from hch)).1
  let lay : Lay := { own := fun g b => g = 0 ∧ O b, fl := fun _ _ => False, Cold := c.Cold, Sb := c.Sb }
  let S : St := { stg := fun i => if i = 0 then .sp (c.n - 1) else .Q, rk := fun i => if i = 0 then k else chain (q i), lay := lay, j := 0, cl := false, nx := 0, bf := [], s := 0, r := 0, shut := false, v := 0, wtg := 0, sm := 0 }
  have known : ∀ i a b, touchAt t i = some a → Loc.blk a.loc = some b → (O b ∨ c.Cold b) → Knows t 0 i := fun i a b ha hbl hx => by
    have hm : a.loc.isMemory = true := by
      cases hl : a.loc with
      | cell x => rfl
      | obj x => rfl
      | _ => rw [hl] at hbl; cases hbl
    rcases hP.known i a ha hm with h | ⟨h, _⟩
    · exact h
    · obtain ⟨h1, h2⟩ := hSh a.loc b h hbl
      exact absurd hx (fun y => y.elim h1 h2)
  have S0 : S.stg 0 = .sp (c.n - 1) := rfl
  have SQ : ∀ i, 0 < i → S.stg i = .Q := fun i hi => by show (if i = 0 then _ else _) = _; rw [if_neg (by omega)]
  have nk : ∀ x, ¬ kid c S x := fun x hx => by have h1 : c.b ≤ x := hx.1; have h2 : x < c.b + 0 + 0 := hx.2; omega
  refine ⟨S, ⟨fun i x hx => ?_, fun i hi => hL.above i hi, by show gs.size = c.b + 0 + 0; omega⟩, ⟨⟨?_, ?_, ?_, ?_, ?_, ?_, ?_, ?_⟩, rfl, rfl, ?_, fun k b hb => hb.elim, fun b hb => (hC b hb).1, hsz, ?_, fun i hi => absurd hi (Nat.not_lt_zero i), fun e => by cases e⟩, ⟨?_, hct, hch, fun i k v hi => by simp [S] at hi, rfl, Nat.zero_le _⟩, ?_⟩
  · rcases Nat.eq_zero_or_pos i with rfl | hi
    · rw [h0] at hx
      cases hx
      show Ok c (.sp (c.n - 1)) k (Deaf t 0) (fun b => 0 = 0 ∧ O b) g w
      have : (fun b => 0 = 0 ∧ O b) = O := by funext b; simp
      rw [this, hP.hears]
      exact hg
    · rw [SQ i hi]
      show Ok c .Q (if i = 0 then k else chain (q i)) _ _ x w
      rw [if_neg (by omega)]
      exact ⟨q i, rfl, hL.old i x hi hx⟩
  · rintro g g' b ⟨rfl, _⟩ ⟨rfl, _⟩; rfl
  · exact fun _ _ _ _ h => h.elim
  · exact fun g b h => (hO b h.2).2.1
  · exact fun g b h => (hO b h.2).2.2
  · exact fun _ _ _ h _ => h.elim
  · exact fun _ _ h => h.elim
  · exact fun _ _ h => h.elim
  · exact fun b h => (hC b h).2
  · exact fun g b h => ⟨(hO b h.2).1, .inl h.1⟩
  · refine ⟨hP.clean, ?_, fun _ _ h => h.elim, ?_, fun b hb i a ha hbl => absurd hb (un i a b ha hbl), ?_, ?_, hP.seen, nr⟩
    · rintro g b ⟨rfl, hb⟩ i a ha hbl
      exact known i a b ha hbl (.inl hb)
    · rintro b hb i a ha hbl _ g (rfl | hg)
      · exact known i a b ha hbl (.inr hb)
      · exact absurd hg (nk g)
    · exact fun i g a _ _ _ ha hm => hP.known i a ha hm
    · exact fun i g hgi h0 _ hc => hP.over i g hgi h0 hc
  · show WgAt c.ty c.Wg w ((0 : Nat) * KK + (0 : Nat)) (0 : Nat)
    have e : ((0 : Nat) : Int) * KK + ((0 : Nat) : Int) = 0 := by simp
    simpa using hwg
  · have hb0 : 0 < c.b := hs ▸ hlt
    have n1 := L.n1
    have cz : ∀ (f : Stage → Nat), f .Q = 0 → (sumTo gs.size fun i => f (S.stg i)) = f (.sp (c.n - 1)) := fun f hf => by
      have := sum1 (f := fun i => f (S.stg i)) (fun i hi => by show f (S.stg i) = 0; rw [SQ i hi]; exact hf) gs.size hlt
      exact this
    refine ⟨Nat.zero_le _, hb0, rfl, fun i hi => absurd hi (Nat.not_lt_zero i), fun e => (by cases e), fun i h1 h2 => by rw [SQ i h1]; rfl, ⟨?_, rfl⟩, ?_, ?_, ?_, ?_, fun k => ?_, fun i hi => absurd hi (Nat.not_lt_zero i), ?_, ?_, fun hp => ?_, fun hp => by cases hp⟩
    · show 0 + (c.n - 1 + 1) = c.n; omega
    · exact (cz vC rfl).symm
    · rw [cz lC rfl]; show 0 + 0 ≤ c.N + 0; omega
    · rw [cz lC rfl]; exact Nat.le_refl _
    · exact Nat.zero_le _
    · rw [cz (kC k) rfl]
      show (rsOf (.sp (c.n - 1))).count k + ([] : List Nat).count k + kC k (.sp (c.n - 1)) = if k < 0 ∧ k < c.N then 1 else 0
      simp [rsOf, kC]
    · rw [cz xC rfl, cz yC rfl]
      exact .inl ⟨.inl rfl, rfl, rfl, rfl, rfl⟩
    · exact ⟨fun e => (by cases e), fun e => (by cases e.1)⟩
    · rw [cz pC rfl] at hp; exact absurd hp (by simp [pC])
theorem pool_all (L : Laws c) {gs : Array Goroutine} {g : Goroutine} {w : World} {sl : Option (Nat × Nat)} {t : Trace} {O : Nat → Prop} (hb : Bes c.P Shun gs g w t) (hs : gs.size = c.b)
    (hg : Gt c.Tm (AtAddS c (AtGo c c.Lp (Starts c (c.n - 1)))) 0 O g w) (hwg : WgAt c.ty c.Wg w 0 0) (hct : CtAt c w 0) (hch : ChAt c w #[] false 0 0)
    (hO : ∀ b, O b → b < w.heap.size ∧ ¬ c.Cold b ∧ ¬ c.Sb b) (hC : ∀ b, c.Cold b → b < w.heap.size ∧ ¬ c.Sb b) (hSh : ∀ l b, Shun l → Loc.blk l = some b → ¬ O b ∧ ¬ c.Cold b)
    (un : ∀ i a b, touchAt t i = some a → Loc.blk a.loc = some b → ¬ c.Sb b) (nr : NoRelease ⟨c.Wg, 0, none⟩ t) :
    ∃ N gs' w' sl' t', runNT c.P N (crowd gs w sl) t = (.next (crowd gs' w' sl'), t') ∧ Done c Shun gs' w' t' := by
  obtain ⟨k, hk⟩ := hg.rank
  obtain ⟨S, hI⟩ := pool_start L hb hs hk hwg hct hch hO hC hSh un nr
  exact pool_runs L _ rfl hI
end Pool
end Go.Proofs.YtdkpbobglogmoaaGreat
namespace Go.Proofs.YtdkpbobglogmoaaGreat
open Go Go.Conc Go.RowKit Go.Conc.Lib Go.ConcR.Gen Go.ConcN.Gen
open Go.ConcR (KK wgBlock WgAt stA smA rd wr mk DC0)
open Go.ConcN (sumTo WgLive)
namespace Pool
open Ren (Loc.blk Rely Gt Gk Rk Terms Did EvO New With Since)
structure Spot where
  aty : TypeId
  Wg : Nat
  A : Nat
  C : Nat
  n : Nat
  N : Nat
  b : Nat
  bp : Nat
  bc : Nat
  pg : Nat
  Cold : Nat → Prop
  fr : Says
noncomputable def Spot.bare (s : Spot) : Cfg := { P := Tryz.prog, ty := L.tWg, aty := s.aty, Wg := s.Wg, A := s.A, C := s.C, n := s.n, N := s.N, b := s.b, Cold := s.Cold, Item := Seen s.fr, Lp := fun _ _ => True, Mp := fun _ _ _ _ => True, Fin := fun _ _ _ _ => True, ChC := fun _ _ => True, Anc := fun _ _ => True }
noncomputable def Spot.Liv (s : Spot) (w : World) : Prop := s.bare.Liv w
abbrev Spot.Rel (s : Spot) (w₀ w : World) : Prop := Rely s.Cold s.Liv None w₀ w
noncomputable def Spot.cfg (s : Spot) (w₀ : World) (Mp Fin : List Nat → (Nat → Prop) → Goroutine → World → Prop) : Cfg :=
  { P := Tryz.prog, ty := L.tWg, aty := s.aty, Wg := s.Wg, A := s.A, C := s.C, n := s.n, N := s.N, b := s.b, Cold := s.Cold, Item := Seen s.fr,
    Lp := fun g w => (g = born Tryz.prog (call39 s.Wg s.A s.bp s.bc) ∨ AtBack s.Wg s.A s.bp s.bc g) ∧ s.Liv w ∧ s.Rel w₀ w
    Mp := Mp, Fin := Fin,
    ChC := fun g w => g = born Tryz.prog (call43 s.Wg s.bc) ∧ s.Liv w ∧ s.Rel w₀ w
    Anc := fun g w => s.Liv w ∧ s.Rel w₀ w ∧ ∃ m, Goes Tryz.prog false (fun w w1 => s.Liv w → s.Liv w1) DC0 (AtHead L s.Wg (wait43 s.Wg s.bc) [bot43]) m g w }
structure Spot.Fit (s : Spot) (w₀ : World) : Prop where
  box : Boxes s.bp s.pg s.N s.bc s.C w₀
  bp : s.Cold s.bp
  pg : s.Cold s.pg
  bc : s.Cold s.bc
  pages : Pages s.Cold s.fr s.pg s.N w₀
  max : Maxed s.Cold w₀
  low : ∀ b, s.Cold b → b < w₀.heap.size
  off : ∀ b, s.Cold b → b ≠ s.Wg ∧ b ≠ s.A ∧ b ≠ s.C
  liv : s.Liv w₀
  n1 : 1 ≤ s.n
  n2 : s.n < 2147483647
  N1 : s.N + s.n < 4611686018427387904
theorem Spot.Fit.av {s : Spot} {w₀ : World} (h : s.Fit w₀) {Mp Fin} : ∀ b, (s.cfg w₀ Mp Fin).Av b → b < w₀.heap.size := by
  rintro b (hb | hb)
  · exact h.low b hb
  · obtain ⟨⟨st, sm, h1⟩, ⟨v, h2⟩, buf, cl, ss, r, h3⟩ := h.liv
    rcases hb with rfl | rfl | rfl
    · exact (Array.getElem?_eq_some_iff.1 h1).1
    · exact (Array.getElem?_eq_some_iff.1 h2).1
    · exact (Array.getElem?_eq_some_iff.1 h3).1
theorem Spot.Fit.laws {s : Spot} {w₀ : World} (h : s.Fit w₀) {Mp Fin} (hmp : ∀ rs O g w, Mp rs O g w → Gt (s.cfg w₀ Mp Fin).Tr (AtRecv (s.cfg w₀ Mp Fin) rs) 0 O g w) : Laws (s.cfg w₀ Mp Fin) := by
  have hlp : ∀ g w, AtBack s.Wg s.A s.bp s.bc g → s.Liv w → s.Rel w₀ w → (s.cfg w₀ Mp Fin).Lp g w := fun g w h1 h2 h3 => ⟨.inr h1, h2, h3⟩
  have hgo := toSend (c := s.cfg w₀ Mp Fin) rfl (fr := s.fr) rfl h.box h.bp h.pg h.bc h.pages h.max h.av hlp
  have hround := fun (g : Goroutine) (w : World) (h1 : AtRound s.Wg s.A s.bp s.bc g) (h2 : s.Liv w) (h3 : s.Rel w₀ w) => toFetch (c := s.cfg w₀ Mp Fin) rfl rfl (by have := h.N1; show s.N < _; omega) h.box h.bp (h.low _ h.bp) (fun T v w a b c d e => hgo T v w a b c d e) h1 h2 h3 (fun hc => (h.off _ hc).2.1 rfl)
  have hT : ¬ (s.cfg w₀ Mp Fin).Cold s.Wg := fun hc => (h.off _ hc).1 rfl
  refine ⟨fun k v F w w1 r hi => Seen.rely hi r, ?_, hmp, ?_, ?_, h.n1, h.n2, h.N1⟩
  · rintro g w ⟨rfl | h1, h2, h3⟩
    · exact fromBorn (c := s.cfg w₀ Mp Fin) rfl hround h2 h3
    · exact fromBack (c := s.cfg w₀ Mp Fin) rfl hround h1 h2 h3
  · rintro g w ⟨rfl, h2, h3⟩
    exact closerBorn (c := s.cfg w₀ Mp Fin) rfl rfl hT h.box h.bc (h.low _ h.bc) (fun g w' a b c => ⟨a, b, c⟩) h.liv w h2 h3
  · rintro g w ⟨h2, h3, m, hm⟩
    have hTc := fun w' (r : s.Rel w₀ w') => toClose (c := s.cfg w₀ Mp Fin) rfl rfl h.box h.bc (h.low _ h.bc) w' (r.liv h.liv) r
    refine Ren.Gt.of_goes (T := (s.cfg w₀ Mp Fin).Tc) h2 hm fun g' w1 hs hl hr => ?_
    exact waitRound (c := s.cfg w₀ Mp Fin) (b₀ := b43) (a₀ := ⟨#[.pointer (some ⟨s.Wg, 0, none⟩), .pointer (some ⟨s.bc, 0, none⟩), undef, undef], []⟩) (ops₀ := ops0c) (i₀ := 0) (rest₀ := []) (k₀ := [.code rest43]) (cs := [bot43]) (w₀ := w₀) H rfl rfl hT hTc (fun g w' a b c => ⟨a, b, c⟩) g' w1 hs hl (h3.trans hr)
end Pool
end Go.Proofs.YtdkpbobglogmoaaGreat
namespace Go.Proofs.YtdkpbobglogmoaaGreat
open Go Go.RowKit
namespace Pool
theorem look_bare {P : Program} {w : World} {mty kt et : TypeId} {r clk : Nat} {z : Value} (hm : P.underlying mty = some (.map kt et)) (hd : P.underlying kt = some (.int .i64)) (hz : (zeroValue et).run P w = .ok z w) (hb : w.heap[r]? = some (.map #[] clk)) (x : Int) :
    (Instr.lookup mty (.map (some r)) (.int .i64 x) true).run P w = .ok (.tuple #[z, .bool false]) w := by
  have hk : MapKept.IsKey (.int .i64) (.int .i64 x) := rfl
  have h1 : Instr.findNow (.int .i64) (.int .i64 x) [] 0 = some none := rfl
  simp [Instr.lookup, run_underlying hm, MapKept.run_getObj_map hb, MapKept.run_checkKey hd hk, MapKept.run_findKey hd h1, hz, Result.andThen]
theorem put_bare {P : Program} {w : World} {mty kt et : TypeId} {r clk : Nat} (v : Value) (hm : P.underlying mty = some (.map kt et)) (hd : P.underlying kt = some (.int .i64)) (hb : w.heap[r]? = some (.map #[] clk)) (x : Int) :
    (Instr.mapUpdate mty (.map (some r)) (.int .i64 x) v).run P w = .ok () { w with heap := w.heap.setIfInBounds r (.map #[⟨.int .i64 x, v, clk⟩] (clk + 1)) } := by
  have hk : MapKept.IsKey (.int .i64) (.int .i64 x) := rfl
  have h1 : Instr.findNow (.int .i64) (.int .i64 x) [] 0 = some none := rfl
  simp [Instr.mapUpdate, run_underlying hm, MapKept.run_getObj_map hb, MapKept.run_checkKey hd hk, MapKept.run_findKey hd h1, MapKept.run_setObj_map _ hb, Result.andThen]
@[reducible] def tmR (mb k g m cap : Nat) (kind lba seq : Int) : Array Value := #[undef, undef, undef, undef, undef, undef, undef, (.map (some mb)), undef, undef, undef, undef, undef, undef, undef, undef, undef, undef, undef, undef, undef, undef, undef, undef, undef, (.tuple #[.agg #[.int .i64 k, .int .i64 kind, .int .i64 lba, .int .i64 seq, .slice (some ⟨g, 0, none⟩) m cap, .int .i64 2], .bool true]), (.bool true), undef, undef, undef, undef, undef, undef, undef, undef, undef, undef, undef, undef, undef, undef, undef, undef, undef, undef, undef, undef, undef, undef, undef, undef, undef, undef, undef, undef, undef, undef, undef, undef, undef, undef, undef, undef, undef, undef, undef, undef, undef, undef, undef, undef, undef, undef, undef, undef, undef, undef, undef, undef, undef, undef, undef, undef, undef, undef, undef, undef, undef, undef, undef, undef, undef, undef, undef, undef, undef, undef, undef, undef, undef, undef]
theorem round_wp (mb k g m cap : Nat) (kind lba seq : Int) (W : World) (clk : Nat) (hmb : W.heap[mb]? = some (.map #[] clk)) (hk : kind = 1) (hlt : mb < W.heap.size) :
    Code.wp Tryz.prog behind6 (fun e a w => e = .normal ∧ a.defers = [] ∧ a.tmps.size = 101 ∧ a.tmps[7]? = some (.map (some mb)) ∧ w.heap[mb]? = some (.map #[⟨.int .i64 lba, .agg #[.int .i64 lba, .int .i64 k, .int .i64 seq, .int .i64 kind], clk⟩] (clk + 1))) ⟨tmR mb k g m cap kind lba seq, []⟩ W := by
  subst hk
  simp only [behind6, round6, loopB, from5, body11, Tryz.f11, Option.getD_some]
  have hm1 := fun (o1 o2 : Obj) => (Below.heap_alloc (W.alloc o1) o2 mb (by simp; omega)).trans ((Below.heap_alloc W o1 mb hlt).trans hmb)
  have hl := fun (o1 o2 : Obj) => look_bare (P := Tryz.prog) (mty := 81) Tryz.underlying81 Tryz.underlying3 (Tryz.zeroValue53 _) (hm1 o1 o2) lba
  have hm2 := fun (o1 o2 o3 : Obj) => (Below.heap_alloc ((W.alloc o1).alloc o2) o3 mb (by simp; omega)).trans (hm1 o1 o2)
  have hu := fun (o1 o2 o3 : Obj) (v : Value) => put_bare (P := Tryz.prog) (mty := 81) v Tryz.underlying81 Tryz.underlying3 (hm2 o1 o2 o3) lba
  go_wp2_with fail
  exact Array.getElem?_setIfInBounds_self_of_lt (by simp; omega)
end Pool
end Go.Proofs.YtdkpbobglogmoaaGreat
namespace Go.Proofs.YtdkpbobglogmoaaGreat
open Go Go.Conc Go.RowKit Go.Conc.Lib Go.ConcR.Gen Go.ConcN.Gen
open Go.ConcR (KK wgBlock WgAt stA smA rd wr mk DC0)
open Go.ConcN (sumTo WgLive)
open Ren (Slf SelfO ghostW VR VsR WR OR SameT gor fram base Frag)
namespace Pool
open Ren (Loc.blk Rely Gt Gk Rk Terms Did EvO New With Since)
def shown (i : Nat) : Bool := (7 ≤ i && i < 15) || (25 ≤ i && i < 85)
structure Fresh (C mb : Nat) (T : Array Value) : Prop where
  size : T.size = 101
  t7 : T[7]? = some (.map (some mb))
  t24 : T[24]? = some (.chan (some C))
  rest : ∀ i, shown i = true → i ≠ 7 → T[i]? = some undef
structure Used (C mb : Nat) (T : Array Value) : Prop where
  size : T.size = 101
  t7 : T[7]? = some (.map (some mb))
  t24 : T[24]? = some (.chan (some C))
theorem frag0 (Z : Ren.Env) : Frag Tryz.prog (fun _ => false) (fun _ => false) Z := ⟨(fun f h => by cases h), (fun f fn h => by cases h)⟩
theorem behind_ok : Ren.okItem Tryz.prog (fun _ => false) (fun _ => false) (.code behind6) = true := by kernel_rfl
theorem behind_sees : Ren.seesI (fun i => !shown i) (.code behind6) = true := by kernel_rfl
def oneMap (fr : Says) (clk : Nat) : Obj := .map #[⟨.int .i64 (fr 0).2.1, .agg #[.int .i64 (fr 0).2.1, .int .i64 (0 : Nat), .int .i64 (fr 0).2.2, .int .i64 (fr 0).1], clk⟩] (clk + 1)
theorem self_map {S I : Nat → Prop} {w : World} {b : Nat} {clk : Nat} (h : w.heap[b]? = some (.map #[] clk)) (hI : ¬ I b) : SelfO S I w b :=
  ⟨⟨_, h, .map clk rfl (fun i x y e => by simp at e)⟩, fun hi => absurd hi hI⟩
theorem made_map {Z : Ren.Env} {R : Ren.Rel} {w w' : World} (h : WR Z R w w') {a b : Nat} (hab : R a b) {j k : IntKind} {x : Int} {l : List Int} {clk c2 : Nat} (ha : w.heap[a]? = some (.map #[⟨.int j x, .agg (l.map (Value.int k)).toArray, clk⟩] c2)) :
    w'.heap[b]? = some (.map #[⟨.int j x, .agg (l.map (Value.int k)).toArray, clk⟩] c2) := by
  obtain ⟨o, p, h1, h2, h3⟩ := h.obj a b hab
  rw [ha] at h1
  cases h1
  cases h3 with
  | @map c d k' hs hv =>
    rw [h2]
    obtain ⟨m⟩ := d
    match m, hs with
    | [e], _ =>
      obtain ⟨q1, q2, q3⟩ := hv 0 _ _ rfl rfl
      obtain ⟨ek, ev, eb⟩ := e
      obtain rfl := vr_int q1
      obtain ⟨d2, rfl, hd⟩ := vr_agg q2
      have q3 : clk = eb := q3
      subst q3
      rw [vs_ints hd]
section
variable {s : Spot} {w₀ : World} {O₀ : Nat → Prop} {K : List Frame} {mb clk : Nat}
theorem mainRound {Mp Fin : List Nat → (Nat → Prop) → Goroutine → World → Prop} (hfit : s.Fit w₀) (hkind : (s.fr 0).1 = 1) {T : Array Value} (hT : Fresh s.C mb T) {v : Value} {F : Nat → Prop} {w : World} (hseen : Seen s.fr 0 v F w) (hN : s.N = 1)
    (hmb : w.heap[mb]? = some (.map #[] clk)) (hOm : O₀ mb) (hO : ∀ b, (O₀ b ∨ F b) → ¬ (s.cfg w₀ Mp Fin).Av b) (hL : s.Liv w) (hR : s.Rel w₀ w)
    (hfin : ∀ T' w1 z O1, Used s.C mb T' → s.Liv w1 → Rely s.Cold s.Liv None w w1 → w1.heap[mb]? = some (oneMap s.fr clk) → O1 mb → Fin [0] O1 (recvAt (T'.setIfInBounds 25 (Conc.recvd true z false)) K [1]) w1) :
    Gt (s.cfg w₀ Mp Fin).Tr (AtRecv (s.cfg w₀ Mp Fin) [0]) 0 (fun b => O₀ b ∨ F b) (recvAt (T.setIfInBounds 25 (Conc.recvd true v true)) K [1]) w := by
  obtain ⟨g, m, cap, zs, t, f, rfl, hFg, hg⟩ := hseen
  have hsz := hT.size
  have eop : (ops6[1]'(by decide)).op = .extract (.tmp 25) 1 := by rfl
  have h25 : 25 < T.size := by omega
  obtain ⟨V, hV⟩ : ∃ V, V = Conc.recvd true (.agg #[.int .i64 (0 : Nat), .int .i64 (s.fr 0).1, .int .i64 (s.fr 0).2.1, .int .i64 (s.fr 0).2.2, .slice (some ⟨g, 0, none⟩) m cap, .int .i64 2]) true := ⟨_, rfl⟩
  have hV2 : V = .tuple #[.agg #[.int .i64 (0 : Nat), .int .i64 (s.fr 0).1, .int .i64 (s.fr 0).2.1, .int .i64 (s.fr 0).2.2, .slice (some ⟨g, 0, none⟩) m cap, .int .i64 2], .bool true] := hV
  rw [← hV]
  have e25 : Act.eval ⟨T.setIfInBounds 25 V, []⟩ (.tmp 25) = V := by
    show (T.setIfInBounds 25 V).getD 25 undef = _
    rw [Array.getD_eq_getD_getElem?, Array.getElem?_setIfInBounds_self_of_lt (by omega)]
    rfl
  refine Gt.op (T := (s.cfg w₀ Mp Fin).Tr) (o := ops6[1]'(by decide)) (v := .bool true) (by rfl) (by rfl) (by decide) (fun w1 r => ?_) (fun w1 r e he => ?_) ?_
  · show Sem.run Tryz.prog _ _ = _
    unfold execOp
    simp only [eop, e25, hV2]
    simp [go_sem, Instr.extract, h25]
  · have hm := mem_listed (show e ∈ listed Tryz.prog _ _ _ _ from he)
    unfold execOp at hm
    simp only [eop, e25, hV2] at hm
    simp [go_sem, Instr.extract, h25] at hm
  show Gt _ _ 0 _ (G (b11.at ⟨(T.setIfInBounds 25 V).setIfInBounds 26 (.bool true), []⟩ [.inRegion ops6 [], .code behind6, .inLoop round6, .inBlock 0, .code tail13]) K) w
  refine Ren.Gt.idle rfl (fun w1 r => by exact stepG_region_end) ?_
  obtain ⟨T2, hT2⟩ : ∃ T2, T2 = (T.setIfInBounds 25 V).setIfInBounds 26 (.bool true) := ⟨_, rfl⟩
  rw [← hT2]
  have e : tmR mb 0 g m cap (s.fr 0).1 (s.fr 0).2.1 (s.fr 0).2.2 = (((Array.replicate 101 undef).setIfInBounds 7 (.map (some mb))).setIfInBounds 25 V).setIfInBounds 26 (.bool true) := by rw [hV2]; rfl
  have hsame : SameT (fun i => !shown i) T2 (tmR mb 0 g m cap (s.fr 0).1 (s.fr 0).2.1 (s.fr 0).2.2) T2 := by
    refine ⟨by rw [hT2]; simp [hsz], fun i hi => ?_, fun i _ => rfl⟩
    have hi : shown i = true := by simpa using hi
    have hi101 : i < 101 := by
      unfold shown at hi
      simp at hi
      omega
    rw [hT2, e]
    simp only [Array.getElem?_setIfInBounds, Array.size_setIfInBounds, Array.size_replicate, hsz, Array.getElem?_replicate, hi101]
    split
    · rfl
    · split
      · rfl
      · split
        · rename_i h7; subst h7; simpa using hT.t7
        · rename_i h7
          simp
          exact hT.rest i hi (fun e => h7 e.symm)
  have hS : ∀ b, (b = mb ∨ b = g) → SelfO (fun b => b = mb ∨ b = g) (fun _ => False) w b := by
    rintro b (rfl | rfl)
    · exact self_map hmb (fun h => h)
    · exact ⟨⟨_, hg, .cells _ Ren.self_ints (fun o ho => ho)⟩, fun h => h.elim⟩
  have hmbl : mb < w.heap.size := (Array.getElem?_eq_some_iff.1 hmb).1
  have hmir := Ren.mirror (I := fun _ => False) (w := w) hS (fun b h => h.elim) (g := Tryz.prog.globals.size) (hfit.max.rely hR).big
  have hgh : (ghostW (fun _ => False) w).heap[mb]? = some (.map #[] clk) := (Ren.ghostW_other (fun h => h)).trans hmb
  have hvs : VsR (Slf (fun b => b = mb ∨ b = g)) (tmR mb 0 g m cap (s.fr 0).1 (s.fr 0).2.1 (s.fr 0).2.2) (tmR mb 0 g m cap (s.fr 0).1 (s.fr 0).2.1 (s.fr 0).2.2) := by
    have hun : ∀ R, VR R undef undef := fun R => .undef
    have hmp : VR (Slf (fun b => b = mb ∨ b = g)) (.map (some mb)) (.map (some mb)) := .map ⟨rfl, .inl rfl⟩
    have hsl : VR (Slf (fun b => b = mb ∨ b = g)) (.slice (some ⟨g, 0, none⟩) m cap) (.slice (some ⟨g, 0, none⟩) m cap) := .slice _ _ ⟨⟨rfl, .inr rfl⟩, rfl, rfl⟩
    have hag : VsR (Slf (fun b => b = mb ∨ b = g)) #[.int .i64 (0 : Nat), .int .i64 (s.fr 0).1, .int .i64 (s.fr 0).2.1, .int .i64 (s.fr 0).2.2, .slice (some ⟨g, 0, none⟩) m cap, .int .i64 2] #[.int .i64 (0 : Nat), .int .i64 (s.fr 0).1, .int .i64 (s.fr 0).2.1, .int .i64 (s.fr 0).2.2, .slice (some ⟨g, 0, none⟩) m cap, .int .i64 2] :=
      Ren.VsR.self_list (l := [.int .i64 (0 : Nat), .int .i64 (s.fr 0).1, .int .i64 (s.fr 0).2.1, .int .i64 (s.fr 0).2.2, .slice (some ⟨g, 0, none⟩) m cap, .int .i64 2]) fun v hv => by
        simp only [List.mem_cons, List.not_mem_nil, or_false] at hv
        rcases hv with rfl | rfl | rfl | rfl | rfl | rfl
        · exact .int _ _
        · exact .int _ _
        · exact .int _ _
        · exact .int _ _
        · exact hsl
        · exact .int _ _
    have htu : VsR (Slf (fun b => b = mb ∨ b = g)) #[.agg #[.int .i64 (0 : Nat), .int .i64 (s.fr 0).1, .int .i64 (s.fr 0).2.1, .int .i64 (s.fr 0).2.2, .slice (some ⟨g, 0, none⟩) m cap, .int .i64 2], .bool true] #[.agg #[.int .i64 (0 : Nat), .int .i64 (s.fr 0).1, .int .i64 (s.fr 0).2.1, .int .i64 (s.fr 0).2.2, .slice (some ⟨g, 0, none⟩) m cap, .int .i64 2], .bool true] :=
      Ren.VsR.self_list (l := [.agg #[.int .i64 (0 : Nat), .int .i64 (s.fr 0).1, .int .i64 (s.fr 0).2.1, .int .i64 (s.fr 0).2.2, .slice (some ⟨g, 0, none⟩) m cap, .int .i64 2], .bool true]) fun v hv => by
        simp only [List.mem_cons, List.not_mem_nil, or_false] at hv
        rcases hv with rfl | rfl
        · exact .agg hag.1 hag.2
        · exact .bool _
    have hVV : VR (Slf (fun b => b = mb ∨ b = g)) V V := by rw [hV2]; exact .tuple htu.1 htu.2
    have hrep : VsR (Slf (fun b => b = mb ∨ b = g)) (Array.replicate 101 undef) (Array.replicate 101 undef) := ⟨rfl, fun i v w h1 h2 => by
      rw [h1] at h2
      cases h2
      simp only [Array.getElem?_replicate] at h1
      split at h1
      · cases h1; exact hun _
      · cases h1⟩
    rw [e]
    exact ((hrep.set 7 hmp).set 25 hVV).set 26 (.bool true)
  let Q : Act → World → Prop := fun a w1 => a.defers = [] ∧ a.tmps.size = 101 ∧ a.tmps[7]? = some (.map (some mb)) ∧ w1.heap[mb]? = some (oneMap s.fr clk)
  refine Ren.gt_any (P := Tryz.prog) (gl := fun _ => false) (fs := fun _ => false) (Z := ⟨fun _ => False, Tryz.prog.globals.size⟩) (Nat.le_refl _) (frag0 _) (T := (s.cfg w₀ Mp Fin).Tr) (Av := (s.cfg w₀ Mp Fin).Av) (H := fun i => !shown i) (t := .app [.inLoop round6, .inBlock 0, .code tail13]) (ds := ([], .normal)) (f := 11) (Q := Q) (X := [.code behind6]) (a := ⟨tmR mb 0 g m cap (s.fr 0).1 (s.fr 0).2.1 (s.fr 0).2.2, []⟩)
    rfl (fun b hb => .inl hb) rfl (fun h => h) (fun O w w' es hO hd hl => Cfg.Liv.did hl hO hd) (fun a w τ d h => h) ⟨_, Tryz.func11⟩ (fun x hx => by rw [List.mem_singleton.1 hx]; exact behind_ok) (fun x hx => by rw [List.mem_singleton.1 hx]; exact behind_sees) trivial rfl
    (wh := ghostW (fun _ => False) w) ?_ (R := Slf (fun b => b = mb ∨ b = g)) (tmv := tmR mb 0 g m cap (s.fr 0).1 (s.fr 0).2.1 (s.fr 0).2.2) (tm := T2) (w := w) (fun x hx => by cases hx) hvs hsame hmir ?_ hO (fun b hb => Nat.lt_of_lt_of_le (hfit.av b hb) hR.size) ?_
  · intro τ d
    obtain ⟨a', w', hq, hs⟩ := Ren.steps_code (f := 11) (Q := Q) (round_wp mb 0 g m cap (s.fr 0).1 (s.fr 0).2.1 (s.fr 0).2.2 ((ghostW (fun _ => False) w).re τ d) clk hgh hkind (by show mb < (ghostW _ w).heap.size; rw [Ren.ghostW_size]; exact hmbl))
    exact ⟨a', w', hq, hs⟩
  · rintro a b ⟨rfl, rfl | rfl⟩
    · exact .inr (.inl hOm)
    · exact .inr (.inr hFg)
  · rintro R1 O1 a1 tmv1 tm1 wh1 w1 ⟨qd, qs, q7, qm⟩ hd hv1 hs1 le hW1 hr1 hoo ho1 sn
    have hmm : R1 mb mb := le _ _ ⟨rfl, .inl rfl⟩
    have hs101 : tm1.size = 101 := by rw [← hs1.size, ← hv1.1]; exact qs
    have h7 : tm1[7]? = some (.map (some mb)) := by
      obtain ⟨u, hu, hvu⟩ := hv1.at_ q7
      rw [hs1.at_ 7 (by rfl), hu]
      cases hvu with
      | map hab => rw [hW1.fn _ _ _ hab hmm]
    have h24 : tm1[24]? = some (.chan (some s.C)) := by
      rw [hs1.hid 24 (by rfl), hT2]
      rw [Array.getElem?_setIfInBounds_ne (by decide), Array.getElem?_setIfInBounds_ne (by decide)]
      exact hT.t24
    have hm1 : w1.heap[mb]? = some (oneMap s.fr clk) := made_map (l := [(s.fr 0).2.1, (0 : Nat), (s.fr 0).2.2, (s.fr 0).1]) (k := .i64) hW1 hmm qm
    show Gt _ _ 0 O1 (G (b11.at ⟨tm1, []⟩ [.inLoop round6, .inBlock 0, .code tail13]) K) w1
    refine Ren.Gt.idle rfl (fun w2 r => by exact stepG_inLoop) ?_
    refine Ren.Gt.idle (g' := G (b11.at ⟨tm1, []⟩ [.code (.region 6 ops6 false), .code behind6, .inLoop round6, .inBlock 0, .code tail13]) K) rfl (fun w2 r => by exact stepG_seq) ?_
    refine Ren.Gt.idle (g' := recvAt tm1 K [0, 1]) rfl (fun w2 r => by exact stepG_region) ?_
    refine atRecv (c := s.cfg w₀ Mp Fin) (w₀ := w1) rfl [0] h24 (fun k v F w2 hk hn => ?_) (fun w2 z r => ?_) w1 (Ren.Rely.refl w1)
    · exfalso
      have hk : k < s.N := hk
      simp at hn
      omega
    · have hl1 := sn.liv hL
      exact hfin tm1 w2 z O1 ⟨hs101, h7, h24⟩ (r.liv hl1) ((Since.rely sn).trans (relyN r)) ((r.own mb (hoo mb (.inl hOm))).trans hm1) (hoo mb (.inl hOm))
end
end Pool
end Go.Proofs.YtdkpbobglogmoaaGreat
namespace Go.Proofs.YtdkpbobglogmoaaGreat
open Go Go.Conc Go.RowKit Go.Conc.Lib Go.ConcR.Gen Go.ConcN.Gen
open Go.ConcR (KK wgBlock WgAt stA smA rd wr mk DC0)
open Go.ConcN (sumTo WgLive)
namespace Pool
open Ren (Loc.blk Rely Gt Gk Rk Terms Did EvO New With Since)
section
variable (s : Spot) (w₀ : World) (O₀ : Nat → Prop) (K : List Frame) (T11 : Array Value) (mb clk : Nat)
def Spot.at24 : Array Value := T11.setIfInBounds 24 (.chan (some s.C))
structure Rcvd (T : Array Value) (O : Nat → Prop) (w : World) : Prop where
  used : Used s.C mb T
  liv : s.Liv w
  rel : s.Rel w₀ w
  map : w.heap[mb]? = some (oneMap s.fr clk)
  own : O mb
def Spot.fin (rs : List Nat) (O : Nat → Prop) (g : Goroutine) (w : World) : Prop := rs = [0] → ∃ T z, Rcvd s w₀ mb clk T O w ∧ g = recvAt (T.setIfInBounds 25 (Conc.recvd true z false)) K [1]
noncomputable def Spot.mp (rs : List Nat) (O : Nat → Prop) (g : Goroutine) (w : World) : Prop :=
  (rs = [] ∧ O = O₀ ∧ ∃ T18 : Array Value, T18.size = 18 ∧ T18[5]? = some (.pointer (some ⟨s.bc, 0, none⟩)) ∧ g = G ((base 26).at ⟨T18, []⟩ [.inRegion ops26 [], .code last26]) (lookAt T11 :: K) ∧ s.Liv w ∧ Rely s.Cold s.Liv O₀ w₀ w) ∨
  (rs = [0] ∧ ∃ v F, O = (fun b => O₀ b ∨ F b) ∧ g = recvAt ((s.at24 T11).setIfInBounds 25 (Conc.recvd true v true)) K [1] ∧ Seen s.fr 0 v F w ∧ (∀ b, (O₀ b ∨ F b) → ¬ s.Cold b ∧ ¬ s.bare.Sb b) ∧ s.Liv w ∧ s.Rel w₀ w ∧ w.heap[mb]? = some (.map #[] clk))
end
section
variable {s : Spot} {w₀ : World} {O₀ : Nat → Prop} {K : List Frame} {T11 : Array Value} {mb clk : Nat}
noncomputable abbrev Spot.one (s : Spot) (w₀ : World) (O₀ : Nat → Prop) (K : List Frame) (T11 : Array Value) (mb clk : Nat) : Cfg := s.cfg w₀ (s.mp w₀ O₀ K T11 mb clk) (s.fin w₀ K mb clk)
theorem Spot.Fit.mpLaw (h : s.Fit w₀) (hkind : (s.fr 0).1 = 1) (hN : s.N = 1) (hT : Fresh s.C mb (s.at24 T11)) (hOm : O₀ mb) (hO : ∀ b, O₀ b → ¬ s.Cold b ∧ ¬ s.bare.Sb b) (hmb : w₀.heap[mb]? = some (.map #[] clk)) :
    ∀ rs O g w, s.mp w₀ O₀ K T11 mb clk rs O g w → Gt (s.one w₀ O₀ K T11 mb clk).Tr (AtRecv (s.one w₀ O₀ K T11 mb clk) rs) 0 O g w := by
  rintro rs O g w (⟨rfl, rfl, T18, hs18, h5, rfl, hl, hr⟩ | ⟨rfl, v, F, rfl, rfl, hse, hav, hl, hr, hm⟩)
  · refine lookBack (c := s.one w₀ O K T11 mb clk) rfl h.box h.bc (h.low _ h.bc) hs18 h5 ?_ w hl hr
    intro w1 hl1 hr1
    refine atRecv (c := s.one w₀ O K T11 mb clk) (w₀ := w₀) rfl [] hT.t24 (fun k v F w2 hk hn r hi hc => ?_) (fun w2 z r => fun e => by cases e) w1 hr1
    have hk : k < s.N := hk
    obtain rfl : k = 0 := by omega
    refine .inr ⟨rfl, v, F, rfl, rfl, hi, fun b hb => hb.elim (hO b) fun hb => ⟨(hc b hb).2.1, (hc b hb).2.2.1⟩, r.liv h.liv, relyN r, (r.own mb hOm).trans hmb⟩
  · refine mainRound (s := s) h hkind hT hse hN hm hOm (fun b hb => ?_) hl hr fun T' w1 z O1 hu hl1 hr1 hm1 ho1 => ?_
    · rintro (hc | hc)
      · exact (hav b hb).1 hc
      · exact (hav b hb).2 hc
    · exact fun _ => ⟨T', z, ⟨hu, hl1, hr.trans hr1, hm1, ho1⟩, rfl⟩
theorem Spot.Fit.runs (h : s.Fit w₀) (hkind : (s.fr 0).1 = 1) (hN : s.N = 1) (hT : Fresh s.C mb (s.at24 T11)) (hOm : O₀ mb) (hO : ∀ b, O₀ b → b < w₀.heap.size ∧ ¬ s.Cold b ∧ ¬ s.bare.Sb b) (hmb : w₀.heap[mb]? = some (.map #[] clk))
    {Shun : Loc → Prop} {gs : Array Goroutine} {g : Goroutine} {sl : Option (Nat × Nat)} {t : Trace} (hb : Ren.Bes Tryz.prog Shun gs g w₀ t) (hs : gs.size = s.b) (hg : AtSpawn s.Wg s.A s.bp s.bc s.n 0 (lookAt T11 :: K) g)
    (hwg : WgAt L.tWg s.Wg w₀ 0 0) (hct : CtAt s.bare w₀ 0) (hch : ChAt s.bare w₀ #[] false 0 0) (hSh : ∀ l b, Shun l → Loc.blk l = some b → ¬ O₀ b ∧ ¬ s.Cold b)
    (un : ∀ i a b, touchAt t i = some a → Loc.blk a.loc = some b → ¬ s.bare.Sb b) (nr : NoRelease ⟨s.Wg, 0, none⟩ t) :
    ∃ N gs' w' sl' t' T z O q, runNT Tryz.prog N (crowd gs w₀ sl) t = (.next (crowd gs' w' sl'), t') ∧ gs'[0]? = some (recvAt (T.setIfInBounds 25 (Conc.recvd true z false)) K [1]) ∧ Rcvd s w₀ mb clk T O w' ∧
      Leavers Tryz.prog t' gs' q ∧ Past (fun l => Shun l ∨ Loc.blk l = some s.Wg) w'.heap.size t' ∧ (∀ b, O b → b < w'.heap.size ∧ ¬ s.Cold b ∧ ¬ s.bare.Sb b) := by
  have L := h.laws (h.mpLaw (K := K) hkind hN hT hOm (fun b hb => (hO b hb).2) hmb)
  have hC : ¬ s.Cold s.Wg := fun hc => (h.off _ hc).1 rfl
  have hWO : ¬ O₀ s.Wg := fun ho => (hO _ ho).2.2 (.inl rfl)
  have hn1 := h.n1
  have key := spawns (c := s.one w₀ O₀ K T11 mb clk) (w₀ := w₀) (O := O₀) (K := lookAt T11 :: K) rfl rfl h.liv hWO hC h.n2 (fun w hl hr => ⟨.inl rfl, hl, relyN hr⟩) (fun w hl hr => ⟨rfl, hl, relyN hr⟩)
    (fun T w h1 h2 h3 h4 => .inl ⟨rfl, rfl, T, h1, h2, rfl, h3, h4⟩) (s.n - 1) 0 (by show 0 + (s.n - 1) + 1 = s.n; omega) g w₀ hg h.liv (Ren.Rely.refl w₀)
  obtain ⟨N, gs', w', sl', t', hrun, O, g', q, rs, hg0, hfin, hcount, hle, hpast, hown⟩ := pool_all (c := s.one w₀ O₀ K T11 mb clk) L (sl := sl) hb hs key hwg hct hch hO (fun b hb => ⟨h.low b hb, fun hs => by
    have := h.off b hb
    rcases hs with hs | hs | hs
    · exact this.1 hs
    · exact this.2.1 hs
    · exact this.2.2 hs⟩) hSh un nr
  have hrs : rs = [0] := by
    have h0 : rs.count 0 = 1 := by
      have := hcount 0
      rw [if_pos (by show 0 < s.N; omega)] at this
      exact this
    have hall : ∀ k ∈ rs, k = 0 := fun k hk => by
      rcases Nat.eq_zero_or_pos k with e | e
      · exact e
      · have := hcount k
        rw [if_neg (by show ¬ k < s.N; omega)] at this
        exact absurd (List.count_pos_iff.2 hk) (by omega)
    have hrep : rs = List.replicate rs.length 0 := List.eq_replicate_of_mem hall
    rw [hrep, List.count_replicate_self] at h0
    rw [hrep, h0]
    rfl
  obtain ⟨T, z, hr, rfl⟩ := hfin hrs
  exact ⟨N, gs', w', sl', t', T, z, O, q, hrun, hg0, hr, hle, hpast, hown⟩
end
end Pool
end Go.Proofs.YtdkpbobglogmoaaGreat
namespace Go.Proofs.YtdkpbobglogmoaaGreat
open Go Go.Conc Go.RowKit Go.Conc.Lib
open Go.ConcX.Gen (at_at)
namespace Pool
noncomputable def ops14 : Array Oper := match tail13 with | .seq _ (.seq (.seq (.region _ ops _) _) _) => ops | _ => #[]
noncomputable def back14 : Code := match tail13 with | .seq _ (.seq (.seq _ t) _) => t | _ => .skip
noncomputable def back19 : Code := match tail13 with | .seq _ (.seq _ t) => t | _ => .skip
theorem after_newE {W : World} {l : List Obj} {q j : Nat} (h : q = W.heap.size + j) : (after W l).heap[q]? = l[j]? := by rw [h]; exact after_new
theorem getD_same {T : Array Value} {i : Nat} {v u : Value} (h : i < T.size) : (T.setIfInBounds i v).getD i u = v := by simp [Array.getD_eq_getD_getElem?, h]
theorem getD_ne {T : Array Value} {i j : Nat} {v u : Value} (h : j ≠ i) : (T.setIfInBounds j v).getD i u = T.getD i u := by simp [Array.getD_eq_getD_getElem?, Array.getElem?_setIfInBounds_ne h]
section
variable {P : Program} {E : Event → Prop} {Stop : Goroutine → World → Prop} {b : Frame} {a : Act} {ops : Array Oper} {i : Nat} {rest : List Nat} {k : List Item} {cs : List Frame} {n : Nat} {W : World} {o : Oper}
theorem goes_enter {f : FuncId} {fn : Func} {c : Code} {args : Array Operand} {ats : Array TypeId} (ho : ops[i]? = some o) (hw : Region.wanted o (yielded ops a.tmps) = true) (hk : b.kind ≠ .early)
    (hop : o.op = .call { callee := .value (.func f), args, argTypes := ats }) (hf : P.funcs[f]? = some fn) (hname : (fn.name == "runtime.NumGoroutine") = false) (hb : fn.body = some c)
    (k' : ∀ d, Goes P true Go.Conc.AtRel (DE E) Stop n (G ((base f).at ⟨args.map a.eval ++ Array.replicate (fn.ntmps - args.size) undef, []⟩ [.code c]) (b.at a (.inRegion ops (i :: rest) :: k) :: cs)) (W.at d)) :
    Goes P true Go.Conc.AtRel (DE E) Stop (n + 1) (G (b.at a (.inRegion ops (i :: rest) :: k)) cs) W := by
  refine Goes.step rfl fun w1 h1 => ?_
  obtain ⟨d, rfl⟩ := h1
  exact goes_call ho hw hk hop hf hname hb ⟨fun e he => by simp at he, by simpa using k' d⟩
theorem goes_enter' {f : FuncId} {fn : Func} {T' : Array Value} {args : Array Operand} {ats : Array TypeId} (ho : ops[i]? = some o) (hw : Region.wanted o (yielded ops a.tmps) = true) (hk : b.kind ≠ .early)
    (hop : o.op = .call { callee := .value (.func f), args, argTypes := ats }) (hf : P.funcs[f]? = some fn) (hname : (fn.name == "runtime.NumGoroutine") = false) (hb : fn.body.isSome = true) (hT : args.map a.eval ++ Array.replicate (fn.ntmps - args.size) undef = T')
    (k' : ∀ d, Goes P true Go.Conc.AtRel (DE E) Stop n (G ((base f).at ⟨T', []⟩ [.code (fn.body.getD .skip)]) (b.at a (.inRegion ops (i :: rest) :: k) :: cs)) (W.at d)) :
    Goes P true Go.Conc.AtRel (DE E) Stop (n + 1) (G (b.at a (.inRegion ops (i :: rest) :: k)) cs) W := by
  obtain ⟨c, hc⟩ := Option.isSome_iff_exists.1 hb
  refine goes_enter ho hw hk hop hf hname hc (fun d => ?_)
  have := k' d
  rw [hc, ← hT] at this
  exact this
theorem goes_idle {g g' : Goroutine} (hs : g.status = .running) (h : ∀ w, stepG P true g w = .go g' w #[]) (k' : ∀ d, Goes P true Go.Conc.AtRel (DE E) Stop n g' (W.at d)) : Goes P true Go.Conc.AtRel (DE E) Stop (n + 1) g W :=
  goes_known (W' := W) (es := #[]) hs (fun d => h _) (fun e he => by simp at he) k'
end
section
variable {E : Event → Prop} {Ok : Nat → Prop} {Stop : Goroutine → World → Prop} {K : List Frame} {n : Nat} {W : World}
theorem tail_goes {T : Array Value} {z : Value} {mb st : Nat} {kk : Int} {V : Value} (hT : T.size = 101) (t7 : T[7]? = some (.map (some mb))) (hE : Lets E Ok) (hmb : W.heap[mb]? = some (.map #[⟨.int .i64 kk, V, st⟩] (st + 1))) (omb : Ok mb) (onew : ∀ j, j < 7 → Ok (W.heap.size + j))
    (hk : ∀ W2 T2 cap, T2.size = 101 → T2[7]? = some (.map (some mb)) → T2[12]? = some (.slice none 0 0) → T2[87]? = some (.slice (some ⟨W.heap.size + 6, 0, none⟩) 1 cap) → W2.heap.size = W.heap.size + 7 → (∀ b, b < W.heap.size → W2.heap[b]? = W.heap[b]?) → W2.os = W.os ∧ W2.output = W.output ∧ W2.tape = W.tape →
      W2.heap[W.heap.size + 6]? = some (.cells (#[.int .i64 kk] ++ Builtin.zeroCells (Value.int .i64 0).cells (cap - 1)) 3) →
      Goes Tryz.prog true Go.Conc.AtRel (DE E) Stop n (G (b11.at ⟨T2, []⟩ [.inRegion ops14 [3, 4], .code back14, .code back19]) K) W2) :
    Goes Tryz.prog true Go.Conc.AtRel (DE E) Stop (n + 600) (recvAt (T.setIfInBounds 25 (Conc.recvd true z false)) K [1]) W := by
  have hV : Conc.recvd true z false = .tuple #[z, .bool false] := rfl
  rw [hV]
  have e7 : T.getD 7 undef = .map (some mb) := by simp [Array.getD_eq_getD_getElem?, t7]
  obtain ⟨T0, hT0⟩ : ∃ T0, T0 = T.setIfInBounds 25 (.tuple #[z, .bool false]) := ⟨_, rfl⟩
  have s0 : T0.size = 101 := by rw [hT0]; simpa using hT
  have e25 : T0.getD 25 undef = .tuple #[z, .bool false] := by rw [hT0]; exact getD_same (by omega)
  have e7a : T0.getD 7 undef = .map (some mb) := by rw [hT0, getD_ne (by decide)]; exact e7
  rw [← hT0]
  have eop : ops6[1]? = some (ops6[1]'(by decide)) := by simp
  have eo1 : (ops6[1]'(by decide)).op = .extract (.tmp 25) 1 := by rfl
  refine goes_opv (W' := W) (v := .bool false) eop (by rfl) (by k_ne) (fun d => ?_) (fun d e he => ?_) (fun d => ?_)
  · show (execOp (Act.eval ⟨T0, []⟩) _).run _ _ = _
    unfold execOp
    simp [eo1, go_sem, Act.eval, ← Array.getD_eq_getD_getElem?, e25]
  · revert he
    unfold execOp
    simp [eo1, go_sem, Act.eval, ← Array.getD_eq_getD_getElem?, e25]
  obtain ⟨T1, hT1⟩ : ∃ T1, T1 = T0.setIfInBounds 26 (.bool false) := ⟨_, rfl⟩
  have s1 : T1.size = 101 := by rw [hT1]; simpa using s0
  have e26 : T1.getD 26 undef = .bool false := by rw [hT1]; exact getD_same (by omega)
  have e7b : T1.getD 7 undef = .map (some mb) := by rw [hT1, getD_ne (by decide)]; exact e7a
  show Goes _ _ _ _ _ (n + 599) (G (b11.at ⟨T0.setIfInBounds 26 (.bool false), []⟩ [.inRegion ops6 [], .code behind6, .inLoop round6, .inBlock 0, .code tail13]) K) (W.at d)
  rw [← hT1]
  refine goes_idle rfl (fun w => stepG_region_end) (fun d => ?_)
  refine goes_idle rfl (fun w => stepG_seq) (fun d => ?_)
  refine goes_idle rfl (fun w => stepG_cond (t := false) e26) (fun d => ?_)
  refine goes_idle rfl (fun w => stepG_exit (by rfl)) (fun d => ?_)
  refine goes_idle rfl (fun w => stepG_seq) (fun d => ?_)
  refine goes_idle rfl (fun w => stepG_region) (fun d => ?_)
  refine goes_opv (W' := W) (v := .slice none 0 0) (by rfl) (by rfl) (by k_ne) (fun d => ?_) (fun d e he => ?_) (fun d => ?_)
  · rfl
  · simp [execOp] at he
  obtain ⟨T2, hT2⟩ : ∃ T2, T2 = T1.setIfInBounds 12 (.slice none 0 0) := ⟨_, rfl⟩
  have s2 : T2.size = 101 := by rw [hT2]; simpa using s1
  have e7c : T2.getD 7 undef = .map (some mb) := by rw [hT2, getD_ne (by decide)]; exact e7b
  have e12 : T2.getD 12 undef = .slice none 0 0 := by rw [hT2]; exact getD_same (by omega)
  show Goes _ _ _ _ _ (n + 592) (G (b11.at ⟨T1.setIfInBounds 12 (.slice none 0 0), []⟩ [.inRegion _ [], .code (.seq (.seq (.region 14 ops14 false) back14) back19)]) K) (_)
  rw [← hT2]
  refine goes_idle rfl (fun w => stepG_region_end) (fun d => ?_)
  refine goes_idle rfl (fun w => stepG_seq) (fun d => ?_)
  refine goes_idle rfl (fun w => stepG_seq) (fun d => ?_)
  refine goes_idle rfl (fun w => stepG_region) (fun d => ?_)
  show Goes _ _ _ _ _ (n + 588) (G (b11.at ⟨T2, []⟩ [.inRegion ops14 [0, 1, 2, 3, 4], .code back14, .code back19]) K) (_)
  refine goes_opv (W' := W) (v := .map (some mb)) (by rfl) (by rfl) (by k_ne) (fun d => ?_) (fun d e he => ?_) (fun d => ?_)
  · show (execOp (Act.eval ⟨T2, []⟩) _).run _ _ = _
    rw [← e7c]
    rfl
  · rw [show (execOp (Act.eval ⟨T2, []⟩) (ops14[0]'(by decide))).events _ _ _ = #[] from rfl] at he
    simp at he
  obtain ⟨T3, hT3⟩ : ∃ T3, T3 = T2.setIfInBounds 85 (.map (some mb)) := ⟨_, rfl⟩
  have s3 : T3.size = 101 := by rw [hT3]; simpa using s2
  have e7d : T3.getD 7 undef = .map (some mb) := by rw [hT3, getD_ne (by decide)]; exact e7c
  have e12a : T3.getD 12 undef = .slice none 0 0 := by rw [hT3, getD_ne (by decide)]; exact e12
  have e85 : T3.getD 85 undef = .map (some mb) := by rw [hT3]; exact getD_same (by omega)
  show Goes _ _ _ _ _ (n + 587) (G (b11.at ⟨T2.setIfInBounds 85 (.map (some mb)), []⟩ [.inRegion ops14 [1, 2, 3, 4], .code back14, .code back19]) K) (_)
  rw [← hT3]
  refine goes_enter' (by rfl) (by rfl) (by k_ne) (by rfl) Tryz.func28 nm28 (by rfl) (T' := #[.map (some mb), undef, undef, undef]) (by simp only [List.map_toArray, List.map_cons, List.map_nil, Act.eval, e85]; rfl) (fun d => ?_)
  refine keys_goes (fun d => ?_)
  simp only [at_at]
  have hw1 : ∀ e, (W.at e).heap.size = W.heap.size := fun _ => rfl
  simp only [hw1]
  obtain ⟨T4, hT4⟩ : ∃ T4, T4 = T3.setIfInBounds 86 (.func (.func 47) #[] #[.pointer (some ⟨W.heap.size, 0, none⟩)]) := ⟨_, rfl⟩
  have s4 : T4.size = 101 := by rw [hT4]; simpa using s3
  have e7e : T4.getD 7 undef = .map (some mb) := by rw [hT4, getD_ne (by decide)]; exact e7d
  have e12b : T4.getD 12 undef = .slice none 0 0 := by rw [hT4, getD_ne (by decide)]; exact e12a
  have e86 : T4.getD 86 undef = .func (.func 47) #[] #[.pointer (some ⟨W.heap.size, 0, none⟩)] := by rw [hT4]; exact getD_same (by omega)
  show Goes _ _ _ _ _ (n + 566) (G (b11.at ⟨T3.setIfInBounds 86 (.func (.func 47) #[] #[.pointer (some ⟨W.heap.size, 0, none⟩)]), []⟩ [.inRegion ops14 [2, 3, 4], .code back14, .code back19]) K) (_)
  rw [← hT4]
  have hW1 : ∀ dd d, ((after (W.at dd) [.cells #[.map (some mb)] 81]).at d).heap.size = W.heap.size + 1 := fun dd d => after_size (W := W.at dd)
  have hm1 : mb < W.heap.size := (Array.getElem?_eq_some_iff.1 hmb).1
  refine goes_enter' (by rfl) (by rfl) (by k_ne) (by rfl) Tryz.func27 nm27 (by rfl) (T' := #[.func (.func 47) #[] #[.pointer (some ⟨W.heap.size, 0, none⟩)], undef, undef, undef, undef, undef, undef, undef, undef]) (by simp only [List.map_toArray, List.map_cons, List.map_nil, Act.eval, e86]; rfl) (fun d => ?_)
  simp only [at_at]
  refine sorted_goes (n := n + 115) hE (mb := mb) (bx := W.heap.size) (kk := kk) (V := V) (st := st) (after_cell (W := W.at _) (j := 0) rfl rfl) ((after_old (W := W.at _) hm1).trans hmb) (onew 0 (by decide)) omb (fun j hj => ?_) (fun d L cap hL1 hL2 => ?_)
  · rw [hW1, Nat.add_assoc]
    exact onew _ (by omega)
  simp only [hW1, Nat.add_assoc, Nat.reduceAdd]
  obtain ⟨T5, hT5⟩ : ∃ T5, T5 = T4.setIfInBounds 87 (.slice (some ⟨W.heap.size + 6, 0, none⟩) 1 cap) := ⟨_, rfl⟩
  show Goes _ _ _ _ _ (n + 115) (G (b11.at ⟨T4.setIfInBounds 87 (.slice (some ⟨W.heap.size + 6, 0, none⟩) 1 cap), []⟩ [.inRegion ops14 [3, 4], .code back14, .code back19]) K) (_)
  rw [← hT5]
  have s5 : T5.size = 101 := by rw [hT5]; simpa using s4
  have g1 : ∀ {i v}, T5.getD i undef = v → i < 101 → T5[i]? = some v := fun {i v} h hi => by
    rw [Array.getElem?_eq_getElem (by omega)]
    rw [Array.getD_eq_getD_getElem?, Array.getElem?_eq_getElem (by omega)] at h
    simpa using h
  refine Goes.mono (hk _ T5 cap s5 (g1 (by rw [hT5, getD_ne (by decide)]; exact e7e) (by decide)) (g1 (by rw [hT5, getD_ne (by decide)]; exact e12b) (by decide)) (g1 (by rw [hT5]; exact getD_same (by omega)) (by decide)) ?_ (fun b hb => ?_) ⟨rfl, rfl, rfl⟩ ?_) (by omega)
  · show (after ((after (W.at _) _).at _) L).heap.size = _
    rw [after_size, hW1, hL1]
  · show (after ((after (W.at _) _).at _) L).heap[b]? = _
    rw [after_old (by rw [hW1]; omega)]
    exact after_old (W := W.at _) hb
  · refine Eq.trans ?_ hL2
    exact after_newE (by rw [hW1])
end
end Pool
end Go.Proofs.YtdkpbobglogmoaaGreat
