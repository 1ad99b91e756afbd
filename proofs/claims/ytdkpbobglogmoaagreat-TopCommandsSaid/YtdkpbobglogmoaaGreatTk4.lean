/- Parts of the proof of TopCommandsProof: RenOp5 RenOp6 RenOp7 RenExec. -/
import Derived.Test.YtdkpbobglogmoaaGreatTk3
set_option linter.unusedVariables false
set_option linter.unusedSimpArgs false
set_option maxRecDepth 100000
set_option maxHeartbeats 32000000
namespace Go.Proofs.YtdkpbobglogmoaaGreat
open Go
namespace Ren
section
variable {P : Program} {Z : Env} {R : Rel} {α β : Type} {A : Rel → α → β → Prop}
theorem SimS.assume {s : Sem α} {s' : Sem β} (h : ∀ R0, R.Le R0 → (∀ a b c, R0 a b → R0 a c → b = c) → (∀ a b c, R0 a c → R0 b c → a = b) → SimS P Z A R0 s s') : SimS P Z A R s s' :=
  fun R0 h0 w w' es es' hw he => h R0 h0 hw.fn hw.inj R0 (.refl _) w w' es es' hw he
theorem AR.same {R : Rel} (fn : ∀ a b c, R a b → R a c → b = c) (inj : ∀ a b c, R a c → R b c → a = b) {a a' b b' : Addr} (x : AR R a a') (y : AR R b b') : (a == b) = (a' == b') := by
  obtain ⟨a1, a2, a3⟩ := a
  obtain ⟨b1, b2, b3⟩ := b
  obtain ⟨c1, c2, c3⟩ := a'
  obtain ⟨d1, d2, d3⟩ := b'
  obtain ⟨x1, x2, x3⟩ := x
  obtain ⟨y1, y2, y3⟩ := y
  simp only at x1 x2 x3 y1 y2 y3
  subst x2 x3 y2 y3
  rw [Bool.eq_iff_iff]
  simp only [beq_iff_eq, Addr.mk.injEq]
  constructor
  · rintro ⟨rfl, h⟩; exact ⟨fn _ _ _ x1 y1, h⟩
  · rintro ⟨rfl, h⟩; exact ⟨inj _ _ _ x1 y1, h⟩
theorem opt_same {R : Rel} (fn : ∀ a b c, R a b → R a c → b = c) (inj : ∀ a b c, R a c → R b c → a = b) {a a' b b' : Addr} (x : AR R a a') (y : AR R b b') : ((some a : Option Addr) == some b) = ((some a' : Option Addr) == some b') := by
  have := AR.same fn inj x y
  simpa using this
def IP : Value → Prop
  | .int _ _ | .pointer _ => True
  | _ => False
theorem sim_keyThatStays {v v' u u' : Value} (hv : VR R v v') (hu : VR R u u') (iv : IP v) (iu : IP u) : SimS P Z VR R (Instr.keyThatStays v u) (Instr.keyThatStays v' u') := by
  refine SimS.assume fun R0 h0 fn inj => ?_
  unfold Instr.keyThatStays
  have e : Instr.sameBits 10000 v u = Instr.sameBits 10000 v' u' := by
    cases hv.mono h0 with
    | int => cases hu.mono h0 with
      | int => rfl
      | ptr => rfl
      | ptr0 => rfl
      | _ => cases iu
    | ptr a => cases hu.mono h0 with
      | int => rfl
      | ptr b => exact opt_same fn inj a b
      | ptr0 => rfl
      | _ => cases iu
    | ptr0 => cases hu.mono h0 with
      | int => rfl
      | ptr b => rfl
      | ptr0 => rfl
      | _ => cases iu
    | _ => cases iv
  rw [e]
  split
  · exact sim_pure fun R1 r1 => (hu.mono h0).mono r1
  · refine sim_same (sim_choose _) fun R1 r1 n _ => sim_pure fun R2 r2 => ?_
    split
    · exact ((hu.mono h0).mono r1).mono r2
    · exact ((hv.mono h0).mono r1).mono r2
inductive ELs (R : Rel) : List MapEntry → List MapEntry → Prop
  | nil : ELs R [] []
  | cons {x y : MapEntry} {l m : List MapEntry} : VR R x.key y.key → VR R x.val y.val → x.born = y.born → ELs R l m → ELs R (x :: l) (y :: m)
def EnR (R : Rel) (c d : Array MapEntry) : Prop := c.size = d.size ∧ ∀ (i : Nat) x y, c[i]? = some x → d[i]? = some y → VR R x.key y.key ∧ VR R x.val y.val ∧ x.born = y.born
theorem ELs.of {R : Rel} : ∀ {l m : List MapEntry}, l.length = m.length → (∀ (i : Nat) x y, l[i]? = some x → m[i]? = some y → VR R x.key y.key ∧ VR R x.val y.val ∧ x.born = y.born) → ELs R l m
  | [], [], _, _ => .nil
  | [], _ :: _, h, _ => by simp at h
  | _ :: _, [], h, _ => by simp at h
  | v :: l, w :: m, h, k => .cons (k 0 v w rfl rfl).1 (k 0 v w rfl rfl).2.1 (k 0 v w rfl rfl).2.2 (ELs.of (by simpa using h) fun i a b ea eb => k (i + 1) a b (by simpa using ea) (by simpa using eb))
theorem EnR.list {R : Rel} {c d : Array MapEntry} (h : EnR R c d) : ELs R c.toList d.toList := ELs.of (by simp [h.1]) fun i a b ea eb => h.2 i a b (by simpa using ea) (by simpa using eb)
theorem EnR.mono {R S : Rel} (h : R.Le S) {c d : Array MapEntry} (x : EnR R c d) : EnR S c d := ⟨x.1, fun i a b e f => ⟨(x.2 i a b e f).1.mono h, (x.2 i a b e f).2.1.mono h, (x.2 i a b e f).2.2⟩⟩
theorem ELs.mono {R S : Rel} (h : R.Le S) {l m : List MapEntry} (x : ELs R l m) : ELs S l m := by
  induction x with
  | nil => exact .nil
  | cons a b c _ ih => exact .cons (a.mono h) (b.mono h) c ih
theorem EnR.push {R : Rel} {c d : Array MapEntry} (h : EnR R c d) {x y : MapEntry} (hx : VR R x.key y.key ∧ VR R x.val y.val ∧ x.born = y.born) : EnR R (c.push x) (d.push y) := by
  refine ⟨by simp [h.1], fun i a b ea eb => ?_⟩
  rw [Array.getElem?_push] at ea eb
  rw [h.1] at ea
  split at ea
  · rename_i hi
    rw [if_pos hi] at eb
    cases ea; cases eb
    exact hx
  · rename_i hi
    rw [if_neg hi] at eb
    exact h.2 i a b ea eb
theorem EnR.modify {R : Rel} {c d : Array MapEntry} (h : EnR R c d) (i : Nat) {f g : MapEntry → MapEntry} (hf : ∀ x y, VR R x.key y.key ∧ VR R x.val y.val ∧ x.born = y.born → VR R (f x).key (g y).key ∧ VR R (f x).val (g y).val ∧ (f x).born = (g y).born) : EnR R (c.modify i f) (d.modify i g) := by
  refine ⟨by simp [h.1], fun j a b ea eb => ?_⟩
  rw [Array.getElem?_modify] at ea eb
  split at ea
  · rename_i hij
    rw [if_pos hij] at eb
    obtain ⟨x, hx, rfl⟩ := Option.map_eq_some_iff.1 ea
    obtain ⟨y, hy, rfl⟩ := Option.map_eq_some_iff.1 eb
    exact hf x y (h.2 j x y hx hy)
  · rename_i hij
    rw [if_neg hij] at eb
    exact h.2 j a b ea eb
def FndR (R : Rel) (a b : Option (Nat × Value)) : Prop := (a = none ∧ b = none) ∨ ∃ i v u, a = some (i, v) ∧ b = some (i, u) ∧ VR R v u
theorem sameNow_alike {R : Rel} {k : IntKind} {v u a b : Value} (hv : VR R v u) (h : VR R a b) : Instr.sameNow (.int k) v a = Instr.sameNow (.int k) u b := by
  have no : ∀ {x y : Value}, Odd y → Instr.sameNow (.int k) x y = none := fun {x y} h => by cases y <;> first | (cases h; done) | (cases x <;> rfl)
  have no' : ∀ {x y : Value}, Odd x → Instr.sameNow (.int k) x y = none := fun {x y} h => by cases x <;> first | (cases h; done) | rfl
  cases hv with
  | junk h1 => rw [no' h1]; rfl
  | int k1 n1 => cases h with
    | junk h2 => rw [no h2]; rfl
    | _ => rfl
  | _ => cases h <;> rfl
def FndI (v : Value) (l : List MapEntry) (i0 : Nat) (a : Option (Nat × Value)) : Prop := ∀ i x, a = some (i, x) → IP v ∧ ∃ n, i = i0 + n ∧ ∀ q, l[n]? = some q → IP q.key
theorem FndI.next {v : Value} {x : MapEntry} {l : List MapEntry} {i0 : Nat} {a : Option (Nat × Value)} (h : FndI v l (i0 + 1) a) : FndI v (x :: l) i0 a := fun i y e => by
  obtain ⟨h1, n, h2, h3⟩ := h i y e
  exact ⟨h1, n + 1, by omega, fun q hq => h3 q (by simpa using hq)⟩
theorem FndI.here {v : Value} {x : MapEntry} {l : List MapEntry} {i0 : Nat} {y : Value} (h : IP v ∧ IP x.key) : FndI v (x :: l) i0 (some (i0, y)) := fun i z e => by
  cases e
  exact ⟨h.1, 0, rfl, fun q hq => by simp at hq; subst hq; exact h.2⟩
theorem FndI.none {v : Value} {l : List MapEntry} {i0 : Nat} : FndI v l i0 none := fun i x e => by cases e
theorem sameNow_ip {k : IntKind} {v a : Value} (h : Instr.sameNow (.int k) v a = some true) : IP v ∧ IP a := by
  cases v <;> first | (cases h; done) | skip
  cases a <;> first | (cases h; done) | exact ⟨trivial, trivial⟩
theorem findNow_alike {R : Rel} {k : IntKind} {v u : Value} (hv : VR R v u) : ∀ {l m : List MapEntry} (i : Nat), ELs R l m → (Instr.findNow (.int k) v l i = none ∧ Instr.findNow (.int k) u m i = none) ∨ ∃ a b, Instr.findNow (.int k) v l i = some a ∧ Instr.findNow (.int k) u m i = some b ∧ FndR R a b ∧ FndI v l i a
  | _, _, i, .nil => .inr ⟨none, none, rfl, rfl, .inl ⟨rfl, rfl⟩, .none⟩
  | _, _, i, .cons (x := x) (y := y) hk hx _ hl => by
    have e : Instr.sameNow (.int k) v x.key = Instr.sameNow (.int k) u y.key := sameNow_alike hv hk
    unfold Instr.findNow
    rw [← e]
    cases hq : Instr.sameNow (.int k) v x.key with
    | none => exact .inl ⟨rfl, rfl⟩
    | some g =>
      cases g with
      | true => exact .inr ⟨_, _, rfl, rfl, .inr ⟨i, _, _, rfl, rfl, hx⟩, .here (sameNow_ip hq)⟩
      | false =>
        rcases findNow_alike hv (i + 1) hl with h | ⟨a, b, h1, h2, h3, h4⟩
        · exact .inl h
        · exact .inr ⟨a, b, h1, h2, h3, h4.next⟩
theorem sim_unequal {t : TypeId} {j : IntKind} (ht : P.underlying t = some (.int j)) {v u a b : Value} (hv : VR R v u) (hk : VR R a b) (hn : ¬ (IP v ∧ IP a)) : SimS P Z (fun _ (_ _ : Bool) => False) R (Op.equal t v a) (Op.equal t u b) := by
  unfold Op.equal Op.maxDepth
  rw [Op.equalIn, Op.equalIn]
  refine sim_same (sim_underlying t) fun R2 r2 k hk2 => ?_
  rw [ht] at hk2
  cases hk2
  cases hv <;> cases hk <;> first | exact sim_stuck | exact sim_unsupported trivial | exact absurd ⟨trivial, trivial⟩ hn
theorem sim_findAsking (hg : P.globals.size ≤ Z.glob) {t : TypeId} {j : IntKind} (hj : P.underlying t = some (.int j)) (ht : EqT P Op.maxDepth t = true) : ∀ {l m : List MapEntry} {R : Rel} {v u : Value} (i : Nat), VR R v u → ELs R l m → SimS P Z (fun R1 a b => FndR R1 a b ∧ FndI v l i a) R (Instr.findAsking t v l i) (Instr.findAsking t u m i)
  | _, _, R, v, u, i, hv, .nil => sim_pure fun _ _ => ⟨.inl ⟨rfl, rfl⟩, .none⟩
  | _, _, R, v, u, i, hv, .cons (x := x) (y := y) hk hx _ hl => by
    unfold Instr.findAsking
    by_cases hip : IP v ∧ IP x.key
    · refine sim_bind (sim_equal hg (.inl ht) hv hk) fun R1 r1 g g' e => ?_
      obtain ⟨rfl, _⟩ := e
      split
      · exact sim_pure fun R2 r2 => ⟨.inr ⟨i, _, _, rfl, rfl, (hx.mono r1).mono r2⟩, .here hip⟩
      · exact (sim_findAsking hg hj ht (i + 1) (hv.mono r1) (hl.mono r1)).weaken fun R2 r2 a b h => ⟨h.1, h.2.next⟩
    · exact sim_bind (sim_unequal hj hv hk hip) fun R1 r1 _ _ h => h.elim
def KeyOk (P : Program) (t : TypeId) : Prop := ∃ k e j, P.underlying t = some (.map k e) ∧ P.underlying k = some (.int j)
theorem sim_findKeyI (hg : P.globals.size ≤ Z.glob) {t : TypeId} {j : IntKind} (ht : P.underlying t = some (.int j)) {l m : List MapEntry} {v u : Value} (hv : VR R v u) (hl : ELs R l m) : SimS P Z (fun R1 a b => FndR R1 a b ∧ FndI v l 0 a) R (Instr.findKey t v l) (Instr.findKey t u m) := by
  unfold Instr.findKey
  refine sim_same (sim_underlying t) fun R1 r1 d hd => ?_
  rw [ht] at hd
  cases hd
  rcases findNow_alike (k := j) (hv.mono r1) 0 (hl.mono r1) with ⟨e1, e2⟩ | ⟨a, b, e1, e2, h, h4⟩
  · rw [e1, e2]
    refine sim_findAsking hg ht ?_ 0 (hv.mono r1) (hl.mono r1)
    unfold Op.maxDepth EqT
    rw [ht]
  · rw [e1, e2]
    refine sim_pure fun R2 r2 => ⟨?_, h4⟩
    rcases h with ⟨rfl, rfl⟩ | ⟨i, x, y, rfl, rfl, h⟩
    · exact .inl ⟨rfl, rfl⟩
    · exact .inr ⟨i, x, y, rfl, rfl, h.mono r2⟩
theorem sim_findKey (hg : P.globals.size ≤ Z.glob) {t : TypeId} {j : IntKind} (ht : P.underlying t = some (.int j)) {l m : List MapEntry} {v u : Value} (hv : VR R v u) (hl : ELs R l m) : SimS P Z FndR R (Instr.findKey t v l) (Instr.findKey t u m) :=
  (sim_findKeyI hg ht hv hl).weaken fun _ _ _ _ h => h.1
theorem sim_checkKey {t : TypeId} {j : IntKind} (ht : P.underlying t = some (.int j)) (e : Bool) {v u : Value} : SimS P Z UR R (Instr.checkKey e 10000 t v) (Instr.checkKey e 10000 t u) := by
  rw [Instr.checkKey, Instr.checkKey]
  refine sim_same (sim_underlying t) fun R1 r1 d hd => ?_
  rw [ht] at hd
  cases hd
  exact sim_pure fun _ _ => trivial
theorem sim_lookup (hg : P.globals.size ≤ Z.glob) {t : TypeId} (hz : ∀ k e, P.underlying t = some (.map k e) → ZeroOk P e) (ht : KeyOk P t) {m m' k k' : Value} (hm : VR R m m') (hk : VR R k k') (ok : Bool) : SimS P Z VR R (Instr.lookup t m k ok) (Instr.lookup t m' k' ok) := by
  obtain ⟨kt, et, j, h1, h2⟩ := ht
  unfold Instr.lookup
  refine sim_same (sim_underlying t) fun R1 r1 d hd => ?_
  rw [h1] at hd
  cases hd
  dsimp only
  have fin : ∀ {R2 : Rel} {v u : Value} (g : Bool), VR R2 v u → SimS P Z VR R2 (pure (if ok = true then Value.tuple #[v, .bool g] else v)) (pure (if ok = true then Value.tuple #[u, .bool g] else u)) := fun {R2 v u} g h => by
    cases ok with
    | true =>
      refine sim_pure fun R3 r3 => ?_
      have := ((VsR.one (h.mono r3)).push (VR.bool g))
      exact .tuple this.1 this.2
    | false => exact sim_pure fun R3 r3 => h.mono r3
  have rest : ∀ {R2 : Rel} {c d : Array MapEntry}, R1.Le R2 → EnR R2 c d → SimS P Z VR R2
      (do
        Instr.checkKey c.isEmpty 10000 kt k
        match ← Instr.findKey kt k c.toList with
        | some (_, v) => pure (if ok = true then Value.tuple #[v, .bool true] else v)
        | none => do
          let z ← zeroValue et
          pure (if ok = true then Value.tuple #[z, .bool false] else z))
      (do
        Instr.checkKey d.isEmpty 10000 kt k'
        match ← Instr.findKey kt k' d.toList with
        | some (_, v) => pure (if ok = true then Value.tuple #[v, .bool true] else v)
        | none => do
          let z ← zeroValue et
          pure (if ok = true then Value.tuple #[z, .bool false] else z)) := by
    intro R2 c d r2 h
    have e : c.isEmpty = d.isEmpty := by
      rw [Bool.eq_iff_iff]
      simp only [Array.isEmpty_iff_size_eq_zero, h.1]
    rw [e]
    refine sim_bind (sim_checkKey h2 _) fun R3 r3 _ _ _ => ?_
    refine sim_bind (sim_findKey hg h2 (((hk.mono r1).mono r2).mono r3) ((h.mono r3).list)) fun R4 r4 a b hab => ?_
    rcases hab with ⟨rfl, rfl⟩ | ⟨i, x, y, rfl, rfl, hxy⟩
    · exact sim_bind (sim_zeroValue (hz kt et h1)) fun R5 r5 v u hv => fin false hv
    · exact fin true hxy
  cases hm with
  | map0 => exact rest (.refl _) ⟨rfl, fun i x y e => by simp at e⟩
  | map a =>
    refine sim_bind (sim_getObj (r1 _ _ a)) fun R2 r2 o p h => ?_
    cases h with
    | map k e v => exact rest r2 ⟨e, v⟩
    | cells => exact SimS.dead (h := .stuck _) trivial
    | number => exact SimS.dead (h := .stuck _) trivial
    | iter => exact SimS.dead (h := .stuck _) trivial
    | miter0 => exact SimS.dead (h := .stuck _) trivial
    | miter => exact SimS.dead (h := .stuck _) trivial
  | _ => exact SimS.dead (h := .stuck _) trivial
theorem sim_mapUpdate (hg : P.globals.size ≤ Z.glob) {t : TypeId} (ht : KeyOk P t) {m m' k k' x x' : Value} (hm : VR R m m') (hk : VR R k k') (hx : VR R x x') : SimS P Z UR R (Instr.mapUpdate t m k x) (Instr.mapUpdate t m' k' x') := by
  obtain ⟨kt, et, j, h1, h2⟩ := ht
  unfold Instr.mapUpdate
  refine sim_same (sim_underlying t) fun R1 r1 d hd => ?_
  rw [h1] at hd
  cases hd
  dsimp only
  cases hm with
  | map0 => exact sim_runtimePanic (e := .plain _) trivial
  | map a =>
    refine sim_bind (sim_getObj (r1 _ _ a)) fun R2 r2 o p h => ?_
    cases h with
    | @map c d n e v =>
      have hen : EnR R2 c d := ⟨e, v⟩
      dsimp only
      refine sim_bind (sim_checkKey h2 _) fun R3 r3 _ _ _ => ?_
      have rr := (r1.trans r2).trans r3
      refine sim_bind (sim_findKeyI hg h2 (hk.mono rr) ((hen.mono r3).list)) fun R4 r4 f g hfgi => ?_
      obtain ⟨hfg, hfi⟩ := hfgi
      have rr := rr.trans r4
      have hen := hen.mono (r3.trans r4)
      rcases hfg with ⟨rfl, rfl⟩ | ⟨i, y, z, rfl, rfl, hyz⟩
      · have := hen.push (x := ⟨k, x, n⟩) (y := ⟨k', x', n⟩) ⟨hk.mono rr, hx.mono rr, rfl⟩
        exact sim_setObj (rr _ _ a) (.map _ this.1 this.2)
      · have hold : VR R4 ((c[i]?.map (·.key)).getD k) ((d[i]?.map (·.key)).getD k') := by
          cases hc : c[i]? with
          | none =>
            have : d[i]? = none := by rw [Array.getElem?_eq_none_iff] at hc ⊢; have := hen.1; omega
            rw [this]
            exact hk.mono rr
          | some q =>
            have hi : i < d.size := by have := (Array.getElem?_eq_some_iff.1 hc).1; have := hen.1; omega
            rw [Array.getElem?_eq_getElem hi]
            exact (hen.2 i q d[i] hc (Array.getElem?_eq_getElem hi)).1
        obtain ⟨hi1, n1, hn1, hi2⟩ := hfi _ _ rfl
        have hi3 : IP ((c[i]?.map (·.key)).getD k) := by
          cases hc : c[i]? with
          | none => exact hi1
          | some q => exact hi2 q (by obtain rfl : n1 = i := by omega
                                      simpa using hc)
        refine sim_bind (sim_keyThatStays hold (hk.mono rr) hi3 hi1) fun R5 r5 k1 k2 h12 => ?_
        have := (hen.mono r5).modify i (f := fun e => ⟨k1, x, e.born⟩) (g := fun e => ⟨k2, x', e.born⟩) (fun a b h => ⟨h12, (hx.mono rr).mono r5, h.2.2⟩)
        exact sim_setObj ((rr.trans r5) _ _ a) (.map _ this.1 this.2)
    | cells => exact sim_stuck
    | number => exact sim_stuck
    | iter => exact sim_stuck
    | miter0 => exact sim_stuck
    | miter => exact sim_stuck
  | _ => exact sim_stuck
end
end Ren
end Go.Proofs.YtdkpbobglogmoaaGreat
namespace Go.Proofs.YtdkpbobglogmoaaGreat
open Go
namespace Ren
section
variable {P : Program} {Z : Env} {R : Rel} {α β : Type} {A : Rel → α → β → Prop}
theorem VsR.tup {c d : Array Value} (h : VsR R c d) : VR R (.tuple c) (.tuple d) := .tuple h.1 h.2
theorem sim_range (t : TypeId) {x x' : Value} (hx : VR R x x') : SimS P Z VR R (Instr.range t x) (Instr.range t x') := by
  unfold Instr.range
  refine sim_same (sim_underlying t) fun R1 r1 d hd => ?_
  have fin : ∀ {R2 : Rel} {o p : Obj}, OR R2 o p → SimS P Z VR R2 (do let r ← newObj o; pure (Value.pointer (some ⟨r, 0, none⟩))) (do let r ← newObj p; pure (Value.pointer (some ⟨r, 0, none⟩))) :=
    fun h => sim_bind (sim_newObj h) fun R3 r3 a b hab => sim_pure fun R4 r4 => .ptr ⟨r4 _ _ hab, rfl, rfl⟩
  cases d with
  | string =>
    cases hx with
    | string s => exact fin (.iter s 0)
    | _ => exact SimS.dead (h := .stuck _) trivial
  | map k e =>
    cases hx with
    | map0 => exact fin (.miter0 _ _ _)
    | map a =>
      refine sim_bind (sim_getObj (r1 _ _ a)) fun R2 r2 o p h => ?_
      cases h with
      | map k e v => exact fin (.miter _ _ _ ((r1.trans r2) _ _ a))
      | _ => exact SimS.dead (h := .stuck _) trivial
    | _ => exact SimS.dead (h := .stuck _) trivial
  | _ => exact SimS.dead (h := .stuck _) trivial
theorem sim_nextS (t : TypeId) {x x' : Value} (hx : VR R x x') : SimS P Z VR R (Instr.next x true t) (Instr.next x' true t) := by
  unfold Instr.next
  have over : ∀ {R2 : Rel}, SimS P Z VR R2 (pure (Value.tuple #[.bool false])) (pure (Value.tuple #[.bool false])) := sim_pure fun _ _ => VsR.tup (VsR.one (.bool false))
  cases hx with
  | @ptr a b hab =>
    obtain ⟨ab, ao, as⟩ := a
    obtain ⟨bb, bo, bs⟩ := b
    obtain ⟨h1, h2, h3⟩ := hab
    simp only at h1 h2 h3
    subst h2 h3
    cases ao with
    | zero =>
      refine sim_bind (sim_getObj h1) fun R2 r2 o p h => ?_
      cases h with
      | iter s n =>
        dsimp only
        split
        · rcases Utf8.decode s n with ⟨c, wd⟩
          refine sim_bind (sim_setObj (r2 _ _ h1) (.iter s _)) fun R3 r3 _ _ _ => sim_pure fun R4 r4 => ?_
          exact VsR.tup (((VsR.empty.push (.bool true)).push (.int _ _)).push (.int _ _))
        · exact over
      | _ => exact SimS.dead (h := .stuck _) trivial
    | succ n => exact SimS.dead (h := .stuck _) trivial
  | _ => exact SimS.dead (h := .stuck _) trivial
theorem sim_loadBytes : ∀ (n : Nat) {R : Rel} {a b : Addr} (s : ByteArray), AR R a b → SimS P Z (fun _ a b => a = b ∧ True) R (Extern.Bytes.loadBytes a n s) (Extern.Bytes.loadBytes b n s) := by
  intro n
  induction n with
  | zero => intro R a b s x; exact sim_pure fun _ _ => ⟨rfl, trivial⟩
  | succ n ih =>
    intro R a b s x
    unfold Extern.Bytes.loadBytes
    refine sim_bind (sim_load x) fun R1 r1 v u hv => ?_
    cases hv with
    | int k z =>
      cases k with
      | u8 => exact ih _ ((x.mono r1).add 1)
      | _ => exact sim_stuck
    | _ => exact sim_stuck
theorem sim_bytesOf {x x' : Value} (hx : VR R x x') : SimS P Z (fun _ a b => a = b ∧ True) R (Extern.Bytes.bytesOf x) (Extern.Bytes.bytesOf x') := by
  cases hx with
  | string s => exact sim_pure fun _ _ => ⟨rfl, trivial⟩
  | slice0 l c => exact sim_pure fun _ _ => ⟨rfl, trivial⟩
  | slice l c a => exact sim_loadBytes l _ a
  | _ => exact sim_stuck
theorem sim_asByte {x x' : Value} (hx : VR R x x') : SimS P Z (fun _ a b => a = b ∧ True) R (Extern.Bytes.asByte x) (Extern.Bytes.asByte x') := by
  cases hx with
  | int k z =>
    cases k with
    | u8 => exact sim_pure fun _ _ => ⟨rfl, trivial⟩
    | _ => exact sim_stuck
  | _ => exact sim_stuck
theorem two_args {c d : Array Value} (h : VsR R c d) : (∃ a b x y, c = #[a, b] ∧ d = #[x, y] ∧ VR R a x ∧ VR R b y) ∨ (c.size ≠ 2 ∧ d.size ≠ 2) := by
  by_cases e : c.size = 2
  · obtain ⟨l⟩ := c
    obtain ⟨m⟩ := d
    obtain ⟨h1, h2⟩ := h
    match l, m, e, h1 with
    | [a, b], [x, y], _, _ => exact .inl ⟨a, b, x, y, rfl, rfl, h2 0 a x rfl rfl, h2 1 b y rfl rfl⟩
    | [a, b], [], _, h1 => simp at h1
    | [a, b], [_], _, h1 => simp at h1
    | [a, b], _ :: _ :: _ :: _, _, h1 => simp at h1
    | [], _, e, _ => simp at e
    | [_], _, e, _ => simp at e
    | _ :: _ :: _ :: _, _, e, _ => simp at e
  · exact .inr ⟨e, fun q => e (h.1.trans q)⟩
theorem sim_count {c d : Array Value} (h : VsR R c d) : SimS P Z VR R (Extern.BytealgCount.count c) (Extern.BytealgCount.count d) := by
  rcases two_args h with ⟨a, b, x, y, rfl, rfl, h1, h2⟩ | ⟨h1, h2⟩
  · exact sim_bind (sim_bytesOf h1) fun R1 r1 s s' e => by
      obtain ⟨rfl, _⟩ := e
      exact sim_bind (sim_asByte (h2.mono r1)) fun R2 r2 s s' e => by
        obtain ⟨rfl, _⟩ := e
        exact sim_pure fun _ _ => .int _ _
  · obtain ⟨l⟩ := c
    match l, h1 with
    | [], _ => exact sim_stuck
    | [_], _ => exact sim_stuck
    | [_, _], h1 => exact absurd rfl h1
    | _ :: _ :: _ :: _, _ => exact sim_stuck
theorem sim_indexByte {c d : Array Value} (h : VsR R c d) : SimS P Z VR R (Extern.BytealgIndexByte.indexByte c) (Extern.BytealgIndexByte.indexByte d) := by
  rcases two_args h with ⟨a, b, x, y, rfl, rfl, h1, h2⟩ | ⟨h1, h2⟩
  · exact sim_bind (sim_bytesOf h1) fun R1 r1 s s' e => by
      obtain ⟨rfl, _⟩ := e
      exact sim_bind (sim_asByte (h2.mono r1)) fun R2 r2 c c' e => by
        obtain ⟨rfl, _⟩ := e
        split <;> exact sim_pure fun _ _ => .int _ _
  · obtain ⟨l⟩ := c
    match l, h1 with
    | [], _ => exact sim_stuck
    | [_], _ => exact sim_stuck
    | [_, _], h1 => exact absurd rfl h1
    | _ :: _ :: _ :: _, _ => exact sim_stuck
theorem sim_globalAddr (name : String) (hg : ∀ g, P.globals.findIdx? (·.name == name) = some g → R g g) : SimS P Z AR R (globalAddr name) (globalAddr name) := by
  unfold globalAddr
  refine sim_same sim_program fun R1 r1 p hp => ?_
  subst hp
  cases e : p.globals.findIdx? (·.name == name) with
  | none => exact sim_stuck
  | some g => exact sim_pure fun R2 r2 => ⟨r2 _ _ (r1 _ _ (hg g e)), rfl, rfl⟩
theorem sim_index (hg : ∀ g, P.globals.findIdx? (·.name == "internal/bytealg.MaxLen") = some g → R g g) {c d : Array Value} (h : VsR R c d) : SimS P Z VR R (Extern.BytealgIndex.index c) (Extern.BytealgIndex.index d) := by
  rcases two_args h with ⟨a, b, x, y, rfl, rfl, h1, h2⟩ | ⟨h1, h2⟩
  · refine sim_bind (sim_bytesOf h1) fun R1 r1 s s' e => ?_
    obtain ⟨rfl, _⟩ := e
    refine sim_bind (sim_bytesOf (h2.mono r1)) fun R2 r2 c c' e => ?_
    obtain ⟨rfl, _⟩ := e
    refine sim_bind (A := fun _ a b => a = b ∧ True) (by
      unfold Extern.BytealgIndex.maxLen
      exact sim_bind (sim_globalAddr _ fun g e => r2 _ _ (r1 _ _ (hg g e))) fun R3 r3 p q hpq => sim_bind (sim_load hpq) fun R4 r4 v u hv => sim_asInt hv) fun R3 r3 m m' e => ?_
    obtain ⟨rfl, _⟩ := e
    dsimp only
    split
    · exact SimS.dead (h := .unsupported _) trivial
    · split
      · exact SimS.dead (h := .unsupported _) trivial
      · split <;> exact sim_pure fun _ _ => .int _ _
  · obtain ⟨l⟩ := c
    match l, h1 with
    | [], _ => exact sim_stuck
    | [_], _ => exact sim_stuck
    | [_, _], h1 => exact absurd rfl h1
    | _ :: _ :: _ :: _, _ => exact sim_stuck
end
end Ren
end Go.Proofs.YtdkpbobglogmoaaGreat
namespace Go.Proofs.YtdkpbobglogmoaaGreat
open Go
namespace Ren
section
variable {P : Program} {Z : Env} {R : Rel}
theorem sim_index7 (t : TypeId) {v u x y : Value} (h : VR R v u) (hx : VR R x y) : SimS P Z VR R (Instr.index t v x) (Instr.index t u y) := by
  unfold Instr.index
  refine sim_bind (sim_asIntOf hx) fun R1 h1 ki ki' e => ?_
  obtain ⟨rfl, _⟩ := e
  obtain ⟨k, i⟩ := ki
  dsimp only
  refine sim_same (sim_underlying t) fun R2 h2 d hd => ?_
  have h := (h.mono h1).mono h2
  clear h1 h2 hx
  cases d with
  | array len elem =>
    cases h with
    | @agg c d hs hv =>
      dsimp only
      split
      · exact sim_same (sim_sizeOf elem) fun R3 h3 n _ => sim_part _ (VsR.mono h3 ⟨hs, hv⟩) _
      · exact sim_boundsPanic _ _ _ _
    | _ => exact SimS.dead (h := .stuck _) trivial
  | string =>
    cases h with
    | string s =>
      dsimp only
      split
      · exact sim_pure fun _ _ => .int _ _
      · exact sim_boundsPanic _ _ _ _
    | _ => exact SimS.dead (h := .stuck _) trivial
  | _ => exact SimS.dead (h := .stuck _) trivial
theorem sim_min2 {x x' y y' : Value} (hx : VR R x x') (hy : VR R y y') : SimS P Z VR R (Builtin.min2 x y) (Builtin.min2 x' y') := by
  cases hx with
  | int k n =>
    cases hy with
    | int k2 m => exact sim_pure fun _ _ => .int _ _
    | ptr a => exact sim_unsupported trivial
    | _ => exact SimS.dead (h := .stuck _) trivial
  | float k n =>
    cases hy with
    | float k2 m =>
      unfold Builtin.min2
      dsimp only
      split
      · exact sim_bind (sim_choose _) fun R1 r1 a b e => by obtain ⟨rfl, _⟩ := e; exact sim_pure fun _ _ => .float _ _
      · exact sim_pure fun _ _ => .float _ _
      · exact sim_pure fun _ _ => .float _ _
      · exact sim_pure fun _ _ => .float _ _
    | ptr a => exact sim_unsupported trivial
    | _ => exact SimS.dead (h := .stuck _) trivial
  | string s =>
    cases hy with
    | string s2 =>
      unfold Builtin.min2
      dsimp only
      refine sim_bind (sim_stringOp _ _ _) fun R1 r1 a b h => sim_bind (sim_asBool h) fun R2 r2 g g' e => ?_
      obtain ⟨rfl, _⟩ := e
      exact sim_pure fun _ _ => .string _
    | ptr a => exact sim_unsupported trivial
    | _ => exact SimS.dead (h := .stuck _) trivial
  | ptr a => exact sim_unsupported trivial
  | _ =>
    cases hy with
    | ptr a => exact sim_unsupported trivial
    | _ => exact SimS.dead (h := .stuck _) trivial
theorem sim_mins : ∀ (l l' : List Value), l.length = l'.length → ∀ {R : Rel}, (∀ (i : Nat) x y, l[i]? = some x → l'[i]? = some y → VR R x y) → ∀ {x x' : Value}, VR R x x' → SimS P Z VR R (l.foldlM Builtin.min2 x) (l'.foldlM Builtin.min2 x')
  | [], [], _, R, h, x, x', hx => sim_pure fun R1 r1 => hx.mono r1
  | a :: l, b :: l', hl, R, h, x, x', hx => by
    simp only [List.foldlM_cons]
    refine sim_bind (sim_min2 hx (h 0 a b rfl rfl)) fun R1 r1 c d hcd => ?_
    exact sim_mins l l' (by simpa using hl) (fun i x y e f => (h (i + 1) x y (by simpa using e) (by simpa using f)).mono r1) hcd
theorem sim_min (ts : Array TypeId) (t : TypeId) {c d : Array Value} (h : VsR R c d) : SimS P Z VR R (Builtin.min_ ts t c) (Builtin.min_ ts t d) := by
  obtain ⟨l⟩ := c
  obtain ⟨l'⟩ := d
  obtain ⟨h1, h2⟩ := h
  unfold Builtin.min_
  simp only
  match l, l', h1, h2 with
  | [], [], _, _ => exact sim_stuck
  | a :: l, b :: l', h1, h2 => exact sim_mins l l' (by simpa using h1) (fun i x y e f => h2 (i + 1) x y (by simpa using e) (by simpa using f)) (h2 0 a b (by simp) (by simp))
end
end Ren
end Go.Proofs.YtdkpbobglogmoaaGreat
namespace Go.Proofs.YtdkpbobglogmoaaGreat
open Go
namespace Ren
inductive NR (fs : Nat → Bool) (R : Rel) : Next → Next → Prop
  | value {v u : Value} : VR R v u → NR fs R (.value v) (.value u)
  | skip : NR fs R .skip .skip
  | enter (f : FuncId) {c d : Array Value} : fs f = true → VsR R c d → NR fs R (.enter f c) (.enter f d)
def okV : Nat → Value → Bool
  | 0, _ => false
  | n + 1, v => match v with
    | .bool _ | .int _ _ | .float _ _ | .string _ | .pointer none | .slice none _ _ | .map none | .chan none | .nilFunc | .nilIface => true
    | .iface _ v => okV n v
    | .agg c => c.toList.all (okV n)
    | .tuple c => c.toList.all (okV n)
    | _ => false
theorem okV_sound : ∀ (n : Nat) (v : Value), okV n v = true → ∀ R, VR R v v
  | 0, _, h, _ => by cases h
  | n + 1, v, h, R => by
    unfold okV at h
    have arr : ∀ {c : Array Value}, c.toList.all (okV n) = true → VsR R c c := fun {c} h => ⟨rfl, fun i a b e f => by
      rw [e] at f
      cases f
      exact okV_sound n a (List.all_eq_true.1 h a (by simp; exact Array.mem_of_getElem? e)) R⟩
    split at h
    · exact .bool _
    · exact .int _ _
    · exact .float _ _
    · exact .string _
    · exact .ptr0
    · exact .slice0 _ _
    · exact .map0
    · exact .chan0
    · exact .nilFunc
    · exact .nilIface
    · exact .iface _ (okV_sound n _ h R)
    · exact .agg rfl (arr h).2
    · exact .tuple rfl (arr h).2
    · cases h
section
variable (P : Program) (gl fs : Nat → Bool)
def okX : Operand → Bool
  | .tmp _ => true
  | .const v => okV 8 v
  | .global g => gl g
  | .func _ => true
def okXs (c : Array Operand) : Bool := c.toList.all (okX gl)
def okO (o : Option Operand) : Bool := o.all (okX gl)
def zeroB (t : TypeId) : Bool := match P.info? t with
  | some i => (match i.zero with | some v => okV 12 v | none => true)
  | none => true
def elemB (t : TypeId) : Bool := match P.underlying t with
  | some (.slice e) => zeroB P e
  | _ => true
def fieldsB (s : TypeId) : Bool := match P.underlying s with
  | some (.struct fs) => fs.toList.all fun f => match P.info? f.type with | some i => i.size != 0 | none => true
  | _ => true
def isNilI : Operand → Bool
  | .const .nilIface => true
  | _ => false
def isNilP : Operand → Bool
  | .const (.pointer none) => true
  | _ => false
def eqB (op : BinOp) (t : TypeId) (x y : Operand) : Bool := match op with
  | .eql | .neq => EqT P Op.maxDepth t || (match P.underlying t with
    | some (.interface _) => isNilI x || isNilI y
    | some (.pointer _) => isNilP x || isNilP y
    | _ => false)
  | _ => true
def cvB (src dst : TypeId) : Bool := match P.underlying src, P.underlying dst with
  | some (.int _), some (.int _) => true
  | some (.slice e), some .string => (match P.underlying e with | some (.int .u8) => true | _ => false)
  | some .string, some .string => true
  | _, _ => false
def mapB (t : TypeId) : Bool := match P.underlying t with
  | some (.map k e) => zeroB P e && (match P.underlying k with | some (.int _) => true | _ => false)
  | _ => false
def stillB : Fn → Bool
  | .func _ => true
  | _ => false
def callB : Callee → Array TypeId → Bool
  | .value (.func f), _ => fs f && (match P.funcs[f]? with | some fn => fn.name != "runtime.NumGoroutine" | none => false)
  | .builtin .len, _ => true
  | .builtin .copy, _ => true
  | .builtin .min, _ => true
  | .builtin .append, ts => (match ts[0]? with | some t => elemB P t | none => true) && (match ts[1]? with | some t => (match P.underlying t with | some (.int _) => false | _ => true) | none => true)
  | _, _ => false
def bareB : Bool := match P.info? 1000000 with | none => true | some i => i.methods.toList.isEmpty
def okOp : Op → Bool
  | .move x | .assign x => okX gl x
  | .pick c a b => okX gl c && okX gl a && okX gl b
  | .alloc t => zeroB P t
  | .box _ x => okX gl x
  | .build t ps => zeroB P t && ps.toList.all fun p => okX gl p.2
  | .buildSlice t _ ps => elemB P t && ps.toList.all fun p => okX gl p.2
  | .load _ a => okX gl a
  | .store _ a x => okX gl a && okX gl x
  | .binOp op t x y _ => okX gl x && okX gl y && eqB P op t x y
  | .unOp _ _ x => okX gl x
  | .convert src dst x => okX gl x && cvB P src dst
  | .makeInterface _ x => okX gl x
  | .makeFunc fn f c => stillB fn && okXs gl f && okXs gl c
  | .makeMap _ r => r.isNone
  | .makeSlice t l c => elemB P t && okX gl l && okX gl c
  | .slice _ x lo hi mx => okX gl x && okO gl lo && okO gl hi && okO gl mx
  | .fieldAddr s x _ => fieldsB P s && okX gl x
  | .field _ x _ => okX gl x
  | .indexAddr _ x i => okX gl x && okX gl i
  | .lookup t x i _ => mapB P t && okX gl x && okX gl i
  | .mapUpdate t m k x => mapB P t && okX gl m && okX gl k && okX gl x
  | .extract x _ => okX gl x
  | .index _ x i => okX gl x && okX gl i
  | .nilCheck x => okX gl x && bareB P
  | .range _ x => okX gl x
  | .next x isS => okX gl x && isS
  | .call c => okXs gl c.args && callB P fs c.callee c.argTypes
  | _ => false
end
def ExtOk (P : Program) (Z : Env) (gl : Nat → Bool) (fn : Func) : Prop :=
  (fn.name == "runtime.NumGoroutine") = false ∧ Extern.findNext fn = none ∧ ∃ e, Extern.find fn = some e ∧ ∀ (R : Rel) c d, (∀ g, gl g = true → R g g) → VsR R c d → SimS P Z VR R (e c) (e d)
section
variable {P : Program} {Z : Env} {R : Rel} {gl fs : Nat → Bool}
theorem zeroB_ok {t : TypeId} (h : zeroB P t = true) : ZeroOk P t := fun i v hi hv R => by
  unfold zeroB at h
  rw [hi] at h
  simp only [hv] at h
  exact okV_sound _ _ h R
theorem elemB_ok {t : TypeId} (h : elemB P t = true) : ElemOk P t := fun e he => by
  unfold elemB at h
  rw [he] at h
  exact zeroB_ok h
theorem fieldsB_ok {t : TypeId} (h : fieldsB P t = true) : Fields P t := fun fs hfs i f hf inf hi => by
  unfold fieldsB at h
  rw [hfs] at h
  have := List.all_eq_true.1 h f (by simp; exact Array.mem_of_getElem? hf)
  rw [hi] at this
  simpa using this
theorem cvB_ok {s d : TypeId} (h : cvB P s d = true) : CvOk P s d := by
  unfold cvB at h
  split at h
  · rename_i e1 e2
    exact ⟨_, _, e1, e2, .inl ⟨⟨_, rfl⟩, ⟨_, rfl⟩⟩⟩
  · rename_i e e1 e2
    split at h
    · rename_i e3; exact ⟨_, _, e1, e2, .inr (.inl ⟨⟨e, rfl, e3⟩, rfl⟩)⟩
    · cases h
  · rename_i e1 e2; exact ⟨_, _, e1, e2, .inr (.inr ⟨rfl, rfl⟩)⟩
  · cases h
theorem mapB_ok {t : TypeId} (h : mapB P t = true) : KeyOk P t ∧ ∀ k e, P.underlying t = some (.map k e) → ZeroOk P e := by
  unfold mapB at h
  split at h
  · rename_i k e hu
    simp only [Bool.and_eq_true] at h
    refine ⟨?_, fun k' e' h' => ?_⟩
    · have h2 := h.2
      split at h2
      · rename_i j hj; exact ⟨k, e, j, hu, hj⟩
      · cases h2
    · rw [hu] at h'
      cases h'
      exact zeroB_ok h.1
  · cases h
def RhoR (gl : Nat → Bool) (R : Rel) (ρ ρ' : Operand → Value) : Prop := ∀ x, okX gl x = true → VR R (ρ x) (ρ' x)
theorem RhoR.arr {ρ ρ' : Operand → Value} (h : RhoR gl R ρ ρ') {c : Array Operand} (hc : okXs gl c = true) : VsR R (c.map ρ) (c.map ρ') := by
  refine ⟨by simp, fun i a b e f => ?_⟩
  simp only [Array.getElem?_map, Option.map_eq_some_iff] at e f
  obtain ⟨x, hx, rfl⟩ := e
  obtain ⟨y, hy, rfl⟩ := f
  rw [hx] at hy
  cases hy
  exact h x (List.all_eq_true.1 hc x (by simp; exact Array.mem_of_getElem? hx))
theorem RhoR.opt {ρ ρ' : Operand → Value} (h : RhoR gl R ρ ρ') {o : Option Operand} (ho : okO gl o = true) : OptR R (o.map ρ) (o.map ρ') := by
  cases o with
  | none => exact .none
  | some x => exact .some (h x (by simpa [okO] using ho))
theorem RhoR.parts {ρ ρ' : Operand → Value} (h : RhoR gl R ρ ρ') {ps : Array (Nat × Operand)} (hp : (ps.toList.all fun p => okX gl p.2) = true) : PsR R (ps.map fun (i, x) => (i, ρ x)).toList (ps.map fun (i, x) => (i, ρ' x)).toList := by
  rw [Array.toList_map, Array.toList_map]
  have key : ∀ l : List (Nat × Operand), (l.all fun p => okX gl p.2) = true → PsR R (l.map fun (i, x) => (i, ρ x)) (l.map fun (i, x) => (i, ρ' x)) := by
    intro l
    induction l with
    | nil => intro _; exact .nil
    | cons p l ih =>
      intro h2
      simp only [List.all_cons, Bool.and_eq_true] at h2
      exact .cons p.1 (h p.2 h2.1) (ih h2.2)
  exact key _ hp
theorem sim_value {s s' : Sem Value} (h : SimS P Z VR R s s') : SimS P Z (NR fs) R (do pure (.value (← s))) (do pure (.value (← s'))) := sim_bind h fun R1 r1 a b hab => sim_pure fun R2 r2 => .value (hab.mono r2)
theorem sim_unit {s s' : Sem Unit} (h : SimS P Z UR R s s') : SimS P Z (NR fs) R (do s; pure .skip) (do s'; pure .skip) := sim_bind h fun R1 r1 a b hab => sim_pure fun R2 r2 => .skip
theorem sim_execOp (hg : P.globals.size ≤ Z.glob) (HX : ∀ f fn, fs f = true → P.funcs[f]? = some fn → fn.body = none → ExtOk P Z gl fn) (hgl : ∀ g, gl g = true → R g g) {ρ ρ' : Operand → Value} (hρ : RhoR gl R ρ ρ') (hc : ∀ v, ρ (.const v) = v) (hf : ∀ f, ρ (.func f) = .func (.func f) #[] #[]) (hf' : ∀ f, ρ' (.func f) = .func (.func f) #[] #[]) {o : Oper} (ho : okOp P gl fs o.op = true) : SimS P Z (NR fs) R (execOp ρ o) (execOp ρ' o) := by
  obtain ⟨dst, op, type, pos, after, guard⟩ := o
  simp only at ho
  cases op with
  | move x => exact sim_pure fun R1 r1 => .value ((hρ x ho).mono r1)
  | assign x => exact sim_pure fun R1 r1 => .value ((hρ x ho).mono r1)
  | pick c a b =>
    simp only [okOp, Bool.and_eq_true] at ho
    refine sim_bind (sim_asBool (hρ c ho.1.1)) fun R1 r1 g g' e => ?_
    obtain ⟨rfl, _⟩ := e
    refine sim_pure fun R2 r2 => .value ?_
    split
    · exact ((hρ a ho.1.2).mono r1).mono r2
    · exact ((hρ b ho.2).mono r1).mono r2
  | alloc t => exact sim_value (sim_alloc (zeroB_ok ho))
  | box t x => exact sim_value (sim_box t (hρ x ho))
  | build t ps =>
    simp only [okOp, Bool.and_eq_true] at ho
    exact sim_value (sim_build (zeroB_ok ho.1) (hρ.parts ho.2))
  | buildSlice t n ps =>
    simp only [okOp, Bool.and_eq_true] at ho
    exact sim_value (sim_buildSlice (elemB_ok ho.1) n (hρ.parts ho.2))
  | load t a => exact sim_value (sim_loadAt t (hρ a ho))
  | store t a x =>
    simp only [okOp, Bool.and_eq_true] at ho
    exact sim_unit (sim_storeAt t (hρ a ho.1) (hρ x ho.2))
  | binOp op t x y yt =>
    simp only [okOp, Bool.and_eq_true] at ho
    have he : op = .eql ∨ op = .neq → EqOk P t (ρ x) (ρ y) := fun h => by
      have := ho.2
      have h2 : (EqT P Op.maxDepth t || (match P.underlying t with
        | some (.interface _) => isNilI x || isNilI y
        | some (.pointer _) => isNilP x || isNilP y
        | _ => false)) = true := by rcases h with rfl | rfl <;> exact this
      simp only [Bool.or_eq_true] at h2
      rcases h2 with h2 | h2
      · exact .inl h2
      · split at h2
        · rename_i ms hm
          simp only [Bool.or_eq_true] at h2
          refine .inr (.inl ⟨⟨ms, hm⟩, h2.imp (fun q => ?_) fun q => ?_⟩)
          · unfold isNilI at q; split at q
            · exact hc _
            · cases q
          · unfold isNilI at q; split at q
            · exact hc _
            · cases q
        · rename_i e hm
          simp only [Bool.or_eq_true] at h2
          refine .inr (.inr ⟨⟨e, hm⟩, h2.imp (fun q => ?_) fun q => ?_⟩)
          · unfold isNilP at q; split at q
            · exact hc _
            · cases q
          · unfold isNilP at q; split at q
            · exact hc _
            · cases q
        · cases h2
    refine sim_value (sim_bind (sim_eqGuard op t x y (hρ x ho.1.1) (hρ y ho.1.2)) fun R1 r1 _ _ _ => sim_binOp hg he ((hρ x ho.1.1).mono r1) ((hρ y ho.1.2).mono r1))
  | unOp op t x => exact sim_value (sim_unary op (hρ x ho))
  | convert s d x =>
    simp only [okOp, Bool.and_eq_true] at ho
    exact sim_value (sim_convert (cvB_ok ho.2) (hρ x ho.1))
  | makeInterface t x => exact sim_value (sim_makeInterface t (hρ x ho))
  | makeFunc fn f c =>
    simp only [okOp, Bool.and_eq_true] at ho
    exact sim_value (sim_makeFunc (by cases fn <;> first | exact trivial | cases ho.1.1) (hρ.arr ho.1.2) (hρ.arr ho.2))
  | makeMap t r =>
    cases r with
    | none => exact sim_value (sim_makeMap t)
    | some x => cases ho
  | makeSlice t l c =>
    simp only [okOp, Bool.and_eq_true] at ho
    exact sim_value (sim_makeSlice (elemB_ok ho.1.1) (hρ l ho.1.2) (hρ c ho.2))
  | slice t x lo hi mx =>
    simp only [okOp, Bool.and_eq_true] at ho
    exact sim_value (sim_sliceAt t (hρ x ho.1.1.1) (hρ.opt ho.1.1.2) (hρ.opt ho.1.2) (hρ.opt ho.2))
  | fieldAddr s x i =>
    simp only [okOp, Bool.and_eq_true] at ho
    exact sim_value (sim_fieldAt (fieldsB_ok ho.1) (hρ x ho.2) i)
  | field t x i => exact sim_value (sim_field t (hρ x ho) i)
  | indexAddr t x i =>
    simp only [okOp, Bool.and_eq_true] at ho
    exact sim_value (sim_indexAt t (hρ x ho.1) (hρ i ho.2))
  | lookup t x i ok =>
    simp only [okOp, Bool.and_eq_true] at ho
    exact sim_value (sim_lookup hg (mapB_ok ho.1.1).2 (mapB_ok ho.1.1).1 (hρ x ho.1.2) (hρ i ho.2) ok)
  | mapUpdate t m k x =>
    simp only [okOp, Bool.and_eq_true] at ho
    exact sim_unit (sim_mapUpdate hg (mapB_ok ho.1.1.1).1 (hρ m ho.1.1.2) (hρ k ho.1.2) (hρ x ho.2))
  | extract x i => exact sim_value (sim_extract (hρ x ho) i)
  | index t x i =>
    simp only [okOp, Bool.and_eq_true] at ho
    exact sim_value (sim_index7 t (hρ x ho.1) (hρ i ho.2))
  | nilCheck x =>
    simp only [okOp, Bool.and_eq_true] at ho
    have hx := hρ x ho.1
    unfold execOp
    dsimp only
    generalize ρ x = a at hx
    generalize ρ' x = b at hx
    cases hx with
    | ptr0 => exact sim_runtimePanic trivial
    | nilIface => exact sim_runtimePanic trivial
    | nilFunc => exact sim_runtimePanic trivial
    | func fn hs h1 h2 h3 h4 =>
      cases fn with
      | func f => exact sim_pure fun R1 r1 => .value ((VR.func (.func f) trivial h1 h2 h3 h4).mono r1)
      | _ => exact hs.elim
    | meth n g d =>
      refine SimS.lost fun w es => ?_
      cases hf : P.types.size + Made.depth with
      | zero =>
        refine ⟨.unsupported (.noEntry "op/nilCheck.the method's receiver behind this interface value is a nil pointer, or cannot be seen to be none, and the arguments act or may panic (ledger 612)"), w, es, ?_, trivial⟩
        simp [hf, nilAhead]
      | succ k =>
        have h2 := ho.2
        unfold bareB at h2
        cases hi : P.info? 1000000 with
        | none =>
          refine ⟨.stuck "no such type", w, es, ?_, trivial⟩
          simp [hf, nilAhead, typeInfo, hi]
        | some i =>
          rw [hi] at h2
          have he : i.methods = #[] := by simpa using h2
          refine ⟨.stuck "invoke: the dynamic type lacks the method", w, es, ?_, trivial⟩
          simp [hf, nilAhead, typeInfo, hi, he]
    | @junk b hj =>
      cases b with
      | pointer q =>
        cases q with
        | none => exact hj.elim
        | some q => exact sim_pure fun R1 r1 => .value (.junk hj)
      | slice q l c =>
        cases q with
        | none => exact hj.elim
        | some q => exact sim_pure fun R1 r1 => .value (.junk hj)
      | map q =>
        cases q with
        | none => exact hj.elim
        | some q => exact sim_pure fun R1 r1 => .value (.junk hj)
      | chan q =>
        cases q with
        | none => exact hj.elim
        | some q => exact sim_pure fun R1 r1 => .value (.junk hj)
      | complex k a b => exact sim_pure fun R1 r1 => .value (.junk hj)
      | func a b c =>
        cases a with
        | method n => exact hj.elim
        | _ => exact sim_pure fun R1 r1 => .value (.junk hj)
      | _ => exact hj.elim
    | bool b => exact sim_pure fun R1 r1 => .value (.bool b)
    | int k n => exact sim_pure fun R1 r1 => .value (.int k n)
    | float k n => exact sim_pure fun R1 r1 => .value (.float k n)
    | string s => exact sim_pure fun R1 r1 => .value (.string s)
    | ptr a => exact sim_pure fun R1 r1 => .value ((VR.ptr a).mono r1)
    | slice0 l c => exact sim_pure fun R1 r1 => .value (.slice0 l c)
    | slice l c a => exact sim_pure fun R1 r1 => .value ((VR.slice l c a).mono r1)
    | map0 => exact sim_pure fun R1 r1 => .value .map0
    | map a => exact sim_pure fun R1 r1 => .value ((VR.map a).mono r1)
    | chan0 => exact sim_pure fun R1 r1 => .value .chan0
    | chan a => exact sim_pure fun R1 r1 => .value ((VR.chan a).mono r1)
    | iface t a => exact sim_pure fun R1 r1 => .value ((VR.iface t a).mono r1)
    | agg h1 h2 => exact sim_pure fun R1 r1 => .value ((VR.agg h1 h2).mono r1)
    | tuple h1 h2 => exact sim_pure fun R1 r1 => .value ((VR.tuple h1 h2).mono r1)
  | range t x => exact sim_value (sim_range t (hρ x ho))
  | next x isS =>
    simp only [okOp, Bool.and_eq_true] at ho
    obtain ⟨ho, rfl⟩ := ho
    exact sim_value (sim_nextS type (hρ x ho))
  | call c =>
    obtain ⟨callee, args, ats⟩ := c
    simp only [okOp, Bool.and_eq_true] at ho
    have ha := hρ.arr ho.1
    have hb := ho.2
    cases callee with
    | value f =>
      cases f with
      | func f =>
        simp only [callB, Bool.and_eq_true] at hb
        have hfs := hb.1
        replace hb := hb.2
        split at hb
        · rename_i fn hfn
          simp only [bne_iff_ne, ne_eq] at hb
          have e1 : (fn.name == "runtime.NumGoroutine") = false := beq_eq_false_iff_ne.2 hb
          have key : ∀ {R1 : Rel} {c d : Array Value}, R.Le R1 → VsR R1 c d → SimS P Z (NR fs) R1 (callFunc f c) (callFunc f d) := by
            intro R1 c d r1 h
            unfold callFunc
            refine sim_same sim_program fun R2 r2 p hp => ?_
            subst hp
            rw [hfn]
            dsimp only
            rw [e1]
            cases hq : fn.body with
            | some _ => exact sim_pure fun R3 r3 => .enter f hfs ((h.mono r2).mono r3)
            | none =>
              obtain ⟨_, x1, e, x2, x3⟩ := HX f fn hfs hfn hq
              rw [x1, x2]
              refine sim_bind (sim_mark (.inl ⟨f, rfl⟩)) fun R3 r3 _ _ _ => ?_
              exact sim_bind (x3 R3 _ _ (fun g hg => r3 _ _ (r2 _ _ (r1 _ _ (hgl g hg)))) ((h.mono r2).mono r3)) fun R4 r4 v u hv => sim_pure fun R5 r5 => .value (hv.mono r5)
          simp only [execOp, resolve, hf, hf', Deferred.ofValue]
          refine sim_bind (A := fun R1 (d d' : Deferred) => d.target = .fn (.func f) #[] ∧ d'.target = .fn (.func f) #[] ∧ VsR R1 d.args d'.args) (sim_pure fun R1 r1 => ⟨rfl, rfl, by simpa using ha.mono r1⟩) fun R1 r1 d d' hd => ?_
          obtain ⟨t1, t2, h⟩ := hd
          rw [t1, t2]
          unfold invoke
          dsimp only
          simp only [Array.append_empty]
          exact key r1 h
        · cases hb
      | _ => cases hb
    | invoke r m => cases hb
    | builtin b =>
      cases b with
      | len => exact sim_value (sim_len ats type ha)
      | copy => exact sim_value (sim_copy ats type ha)
      | min => exact sim_value (sim_min ats type ha)
      | append =>
        simp only [callB, Bool.and_eq_true] at hb
        refine sim_value (sim_append ats (fun x hx => ?_) type (fun x hx k => ?_) ha)
        · have h1 := hb.1
          rw [hx] at h1
          exact elemB_ok h1
        · have h2 := hb.2
          rw [hx] at h2
          intro he
          simp only [he] at h2
          cases h2
      | _ => cases hb
  | _ => cases ho
end
end Ren
end Go.Proofs.YtdkpbobglogmoaaGreat
